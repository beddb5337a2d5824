import Derived.Test.YtmigbnokhhdopaaRrEvA
import Derived.Laws.StructEq
import Derived.Laws.Small
import Derived.ChangeKeysEq
import Derived.Tactics
import Derived.Laws.Strings
import Derived.Laws.CopyRow
set_option linter.unusedSimpArgs false
set_option linter.unusedVariables false
section
namespace Go.Ev
open Go.RowKit (Below)
theorem RowAt.val {w : World} {G Gd : Nat → Prop} {T : Nat} {t : Ty} {xs : List t.den} {v : Value} (h : RowAt w G T t xs v) (hG : ∀ b,G b → Gd b)
  (hb : ∀ a n c,v = .slice (some a) n c → Gd a.block) : Val w Gd (.sl t) xs [v]:=by
 rcases h with ⟨rfl,rfl⟩ | ⟨b,c,cs,e,hh,h1,h2,h3,hx⟩
 ·exact ⟨none,0,0,rfl,rfl,Nat.le_refl _,fun j hj=>absurd hj (by simp)⟩
 ·subst e
  refine ⟨_,_,_,rfl,rfl,h1,fun j hj=>?_⟩
  obtain ⟨cs',hc,hv⟩:=hx j hj
  exact ⟨⟨b,0,none⟩,cs',rfl,rfl,hb _ _ _ rfl,by simpa using hc,Val.mono (fun b hb=>⟨hG b hb,rfl⟩) _ _ _ hv⟩
def ValE (w : World) (G : Nat → Prop) : (t : Ty) → t.den → List Value → Prop
 | .osl T t,xs,cs=>∃ A n c,cs = [.slice A n c] ∧ xs.length = n ∧ n ≤ c ∧
   ∀ j,j < xs.length → ∃ a cs',A = some a ∧ a.spot = none ∧ G a.block ∧ CellsAt w a.block (a.off + j * t.size) cs' ∧ ValE w G t (xs.getD j t.zero) cs'
 | .pair p q,x,cs=>∃ c1 c2,cs = c1 ++ c2 ∧ ValE w G p x.1 c1 ∧ ValE w G q x.2 c2
 | .int k,x,cs=>Val w G (.int k) x cs
 | .bool,x,cs=>Val w G .bool x cs
 | .str,x,cs=>Val w G .str x cs
 | .sl t,x,cs=>Val w G (.sl t) x cs
 | .unit,x,cs=>Val w G .unit x cs
 | .any,x,cs=>Val w G .any x cs
 | .mp k v,x,cs=>Val w G (.mp k v) x cs
 | .omp k v,x,cs=>Val w G (.mp k v) x cs
structure Rp where
 D : Type
 z : D
 n : Nat
 val : D → List Value → Prop
def slR (w : World) (G : Nat → Prop) (r : Rp) : Rp:=⟨List r.D,[],1,fun xs cs=>∃ A n c,cs = [.slice A n c] ∧ xs.length = n ∧ n ≤ c ∧
   ∀ j,j < xs.length → ∃ a cs',A = some a ∧ a.spot = none ∧ G a.block ∧ CellsAt w a.block (a.off + j * r.n) cs' ∧ r.val (xs.getD j r.z) cs'⟩
def prR (r s : Rp) : Rp:=⟨r.D × s.D,(r.z,s.z),r.n + s.n,fun x cs=>∃ c1 c2,cs = c1 ++ c2 ∧ r.val x.1 c1 ∧ s.val x.2 c2⟩
def vp (w : World) (G : Nat → Prop) (t : Ty) : Rp:=⟨t.den,t.zero,t.size,Val w G t⟩
def ep (w : World) (G : Nat → Prop) (t : Ty) : Rp:=⟨t.den,t.zero,t.size,ValE w G t⟩
theorem ep_era (w : World) (G : Nat → Prop) : ∀ t : Ty,ep w G t = vp w G t.era
 | .osl T t=>by
  have ih:=ep_era w G t
  show slR w G (ep w G t) = slR w G (vp w G t.era)
  rw [ih]
 | .pair a b=>by
  have ia:=ep_era w G a
  have ib:=ep_era w G b
  show prR (ep w G a) (ep w G b) = prR (vp w G a.era) (vp w G b.era)
  rw [ia,ib]
 | .int _ | .bool | .str | .sl _ | .unit | .any | .mp _ _ | .omp _ _=>rfl
theorem rp_cast {r s : Rp} (h : r = s) (hd : r.D = s.D) {x : r.D} {cs : List Value} (hv : r.val x cs) : s.val (cast hd x) cs:=by
 subst h
 exact hv
theorem y23q {w : World} {b o : Nat} {c d : List Value} (hc : CellsAt w b o c) (hd : CellsAt w b o d) (hl : c.length = d.length) : c = d:=by
 apply List.ext_getElem hl
 intro i h1 h2
 have e1:=hc i c[i] (List.getElem?_eq_getElem h1)
 have e2:=hd i d[i] (List.getElem?_eq_getElem h2)
 rw [e1] at e2
 exact Option.some.inj e2
theorem Inn.valE {w : World} {G Gd : Nat → Prop} (hG : ∀ b,G b → Gd b) : ∀ (t : Ty) (x : t.den) (cs : List Value) (bl : List Nat),Val w G t x cs → Inn w G t x cs bl → (∀ b ∈ bl,Gd b) → ValE w Gd t x cs
 | .int k,x,cs,bl,h,_,_=>Val.mono (fun b hb=>⟨hG b hb,rfl⟩) (.int k) x cs h
 | .bool,x,cs,bl,h,_,_=>Val.mono (fun b hb=>⟨hG b hb,rfl⟩) .bool x cs h
 | .str,x,cs,bl,h,_,_=>Val.mono (fun b hb=>⟨hG b hb,rfl⟩) .str x cs h
 | .sl t,x,cs,bl,h,_,_=>Val.mono (fun b hb=>⟨hG b hb,rfl⟩) (.sl t) x cs h
 | .unit,x,cs,bl,h,_,_=>Val.mono (fun b hb=>⟨hG b hb,rfl⟩) .unit x cs h
 | .any,x,cs,bl,h,_,_=>Val.mono (fun b hb=>⟨hG b hb,rfl⟩) .any x cs h
 | .mp k v,x,cs,bl,h,_,_=>Val.mono (fun b hb=>⟨hG b hb,rfl⟩) (.mp k v) x cs h
 | .omp k v,x,cs,bl,_,⟨b,e,e2,h⟩,hb=>by
  subst e; subst e2
  exact (h.mono (fun b hb=>⟨hG b hb,rfl⟩) rfl).val (hb b List.mem_cons_self)
 | .pair p q,x,cs,bl,⟨c1,c2,e,h1,h2⟩,⟨d1,d2,b1,b2,e1,e2,e3,g1,g2⟩,hb=>by
  subst e; subst e3
  obtain ⟨rfl,rfl⟩:=List.append_inj e1 (by rw [h1.length,e2])
  exact ⟨c1,c2,rfl,Inn.valE hG p _ _ _ h1 g1 fun b h=>hb b (List.mem_append_left _ h),Inn.valE hG q _ _ _ h2 g2 fun b h=>hb b (List.mem_append_right _ h)⟩
 | .osl T t,xs,cs,bl,_,⟨v,e,hr,hi⟩,hb=>by
  subst e
  rcases hr with ⟨rfl,rfl⟩ | ⟨b,c,cs,e,hh,h1,h2,h3,hx⟩
  ·exact ⟨none,0,0,rfl,rfl,Nat.le_refl _,fun j hj=>absurd hj (by simp)⟩
  ·subst e
   rcases hi with ⟨e,_⟩ | ⟨b',e,bls,e2,hl,hy⟩
   ·simp [Value.ownBlock] at e
   ·simp only [Value.ownBlock,Option.map_some,Option.some.injEq] at e
    subst e; subst e2
    refine ⟨_,_,_,rfl,rfl,h1,fun j hj=>?_⟩
    obtain ⟨cs',hc,hv⟩:=hx j hj
    obtain ⟨cs2,hc2,hl2,hi2⟩:=hy j hj
    have:=y23q hc hc2 (by rw [hv.length,hl2])
    subst this
    exact ⟨⟨b,0,none⟩,cs',rfl,rfl,hb _ List.mem_cons_self,by simpa using hc,Inn.valE hG t _ _ _ hv hi2 fun d hd=>hb d (List.mem_cons_of_mem _ (y17q hd))⟩
theorem frz_val {w : World} {G Gd : Nat → Prop} {T : Nat} {t : Ty} {xs : List t.den} {v : Value} {bl : List Nat} (h : RowAt w G T t xs v) (hi : RowIn w G t xs v bl) (hG : ∀ b,G b → Gd b)
  (hb : ∀ b ∈ bl,Gd b) : Val w Gd (.sl (frz t xs).1) (frz t xs).2 [v]:=by
 unfold frz
 cases ht : t.noOwn with
 | true=>exact RowAt.val h hG fun a n c e=>hb _ (hi.head (by rw [e]; rfl))
 | false =>
  have he : ValE w Gd (.osl T t) xs [v]:=Inn.valE hG (.osl T t) xs [v] bl ⟨v,rfl,by
   rcases h with ⟨rfl,_⟩ | ⟨b,c,cs,e,_⟩
   ·exact ⟨rfl,rfl⟩
   ·subst e; exact ⟨rfl,rfl⟩⟩ ⟨v,rfl,h,hi⟩ hb
  exact rp_cast (r:=ep w Gd (.osl T t)) (s:=vp w Gd (.sl t.era)) (ep_era w Gd (.osl T t)) _ he
theorem frz_size (t : Ty) (xs : List t.den) : (frz t xs).1.size = t.size:=by
 have key : ∀ t : Ty,t.era.size = t.size:=by
  intro t
  induction t with
  | pair a b iha ihb=>simp only [Ty.era,Ty.size,iha,ihb]
  | _=>rfl
 unfold frz
 cases t.noOwn with
 | true=>rfl
 | false=>exact key t
theorem Inn.part {w : World} {G : Nat → Prop} : ∀ {t : Ty} {x : t.den} {cs : List Value} {bl : List Nat} {off : Nat} {p : Sigma fun u : Ty=>List u.den},Inn w G t x cs bl → getS t x off = some p →
  ∃ T u xs' v bl',cs[off]? = some v ∧ RowAt w G T u xs' v ∧ RowIn w G u xs' v bl' ∧ (∀ b ∈ bl',b ∈ bl) ∧ frz u xs' = p ∧ ownAt t off = true
 | .osl T t,xs,cs,bl,off,p,⟨v,e,hr,hi⟩,h=>by
  cases off with
  | succ=>simp [getS] at h
  | zero =>
   simp only [getS,Option.some.injEq] at h
   exact ⟨T,t,xs,v,bl,by rw [e]; rfl,hr,hi,fun _ h=>h,h,rfl⟩
 | .pair a b,x,cs,bl,off,p,⟨c1,c2,b1,b2,e1,e2,e3,h1,h2⟩,h=>by
  subst e1; subst e3
  simp only [getS] at h
  simp only [ownAt]
  cases hb : Nat.blt off a.size with
  | true =>
   rw [hb] at h
   simp only at h ⊢
   obtain ⟨T,u,xs',v,bl',g1,g2,g3,g4,g5,g6⟩:=Inn.part h1 h
   have hlt : off < a.size:=by rw [Nat.blt_eq] at hb; exact hb
   exact ⟨T,u,xs',v,bl',by rw [List.getElem?_append_left (by omega)]; exact g1,g2,g3,fun b hb=>List.mem_append_left _ (g4 b hb),g5,g6⟩
  | false =>
   rw [hb] at h
   simp only at h ⊢
   obtain ⟨T,u,xs',v,bl',g1,g2,g3,g4,g5,g6⟩:=Inn.part h2 h
   have hge : a.size ≤ off:=by
    rcases Nat.lt_or_ge off a.size with h | h
    ·have : Nat.blt off a.size = true:=by rw [Nat.blt_eq]; exact h
     rw [this] at hb; cases hb
    ·exact h
   exact ⟨T,u,xs',v,bl',by rw [List.getElem?_append_right (by omega),e2]; exact g1,g2,g3,fun b hb=>List.mem_append_right _ (g4 b hb),g5,g6⟩
 | .int _,_,_,_,_,_,_,h | .bool,_,_,_,_,_,_,h | .str,_,_,_,_,_,_,h | .sl _,_,_,_,_,_,_,h | .unit,_,_,_,_,_,_,h | .any,_,_,_,_,_,_,h | .mp _ _,_,_,_,_,_,_,h | .omp _ _,_,_,_,_,_,_,h=>by simp [getS] at h
theorem cells1 {w : World} {b o : Nat} {cs : List Value} {q : Nat} {v u : Value} (h : CellsAt w b o cs) (hq : cs[q]? = some v) (hu : CellsAt w b (o + q) [u]) : u = v:=by
 have h1:=h q v hq
 have h2:=hu 0 u rfl
 rw [Nat.add_zero,h1] at h2
 exact (Option.some.inj h2).symm
theorem sub_row {m : St} {T : Nat} {t : Ty} {id n j off : Nat} {xs : List t.den} {v : Value} {p : Sigma fun u : Ty=>List u.den} (ho : Ob m id (.row T t n xs)) (hl : Lv m (.sub id n t.size j off) v) (hg : getS t (xs.getD j t.zero) off = some p) :
  ∃ T' u xs' bl',RowAt m.w m.G T' u xs' v ∧ RowIn m.w m.G u xs' v bl' ∧ (∀ b ∈ bl',b ∈ m.σ n) ∧ frz u xs' = p ∧ j < xs.length:=by
 obtain ⟨h1,h2,h3,h4,_⟩:=ho
 obtain ⟨_,_,⟨b,len,c,e1,hj⟩,hv,_⟩:=hl
 have hjx : j < xs.length:=by
  rcases h1 with ⟨e,_⟩ | ⟨b',c',cs,e,_⟩
  ·rw [e1] at e; simp at e
  ·rw [e1] at e
   simp only [Value.slice.injEq] at e
   omega
 have hown : (m.ν id).ownBlock = some b:=by rw [e1]; rfl
 rcases h2 with ⟨e,_⟩ | ⟨b',e,bls,e2,hlen,hx⟩
 ·rw [hown] at e; cases e
 ·rw [hown] at e
  obtain rfl:=Option.some.inj e
  obtain ⟨cs,hc,hcl,hi⟩:=hx j hjx
  obtain ⟨T',u,xs',v',bl',g1,g2,g3,g4,g5,g6⟩:=hi.part hg
  obtain ⟨k1,_⟩:=h4 b hown j hjx off g6
  have:=cells1 hc g1 k1
  rw [← hv] at this
  subst this
  refine ⟨T',u,xs',bl',g2,g3,fun q hq=>?_,g5,hjx⟩
  rw [e2]
  exact List.mem_cons_of_mem _ (y17q (g4 q hq))
theorem rng_val {m : St} {Gd : Nat → Prop} {t : Ty} {ys : List t.den} {id sz lo hi : Nat} {v : Value} (h : Val m.w Gd (.sl t) ys [m.ν id]) (hsz : t.size = sz) (hl : Lv m (.rng id sz lo hi) v) : Val m.w Gd (.sl t) ((ys.take hi).drop lo) [v]:=by
 obtain ⟨hd,hlo,A,n,c,A',c',e1,hn,rfl,hc',hA,_⟩:=hl
 obtain ⟨A2,n2,c2,e2,hl2,hc2,hx⟩:=h
 rw [e1] at e2
 simp only [List.cons.injEq,Value.slice.injEq,and_true] at e2
 obtain ⟨rfl,rfl,rfl⟩:=e2
 refine ⟨A',_,c',rfl,by simp; omega,hc',fun j hj=>?_⟩
 simp only [List.length_drop,List.length_take] at hj
 obtain ⟨a,cs',e3,hs,hg,hcs,hv⟩:=hx (lo + j) (by omega)
 subst e3
 have hA:=hA (by omega)
 have h0 : a.add (lo * sz) = ⟨a.block,a.off + lo * sz,none⟩:=by
  obtain ⟨b,o,s⟩:=a
  simp only at hs
  subst hs
  exact Addr.add_mid b o _
 refine ⟨a.add (lo * sz),cs',by rw [hA]; rfl, ?_, ?_, ?_, ?_⟩
 ·rw [h0]
 ·rw [h0]; exact hg
 ·rw [h0,← hsz]
  rw [Nat.add_mul] at hcs
  simpa [Nat.add_assoc] using hcs
 ·have : ((ys.take hi).drop lo).getD j t.zero = ys.getD (lo + j) t.zero:=by
   simp only [List.getD_eq_getElem?_getD,List.getElem?_drop,List.getElem?_take]
   rw [if_pos (by omega)]
  rw [this]; exact hv
section
variable {m : St} {os : List (Nat × Obj)} {st : Bool} {Gd : Nat → Prop}
theorem dec_val (ho : ∀ i o,find os i = some o → Ob m i o) (hG : ∀ b,m.G b → Gd b)
  (hR : st = false → ∀ i o b,find os i = some o → frzB m i o b → Gd b) :
  ∀ (t : Ty) (l : List V) (x : t.den) (r : List V) (cs : List Value),dec st os t l = some (x,r) → R2 (Lv m) l cs → ∃ c1 c2,cs = c1 ++ c2 ∧ Val m.w Gd t x c1 ∧ R2 (Lv m) r c2
 | .int k,l,x,r,cs,h,hl=>by
  cases l with
  | nil=>simp [dec] at h
  | cons v l =>
   cases cs with
   | nil=>exact absurd hl (by simp [R2])
   | cons c cs =>
    obtain ⟨h1,h2⟩:=hl
    cases v with
    | i j n =>
     simp only [dec] at h
     cases hk : kEq k j with
     | false=>simp [hk] at h
     | true =>
      simp only [hk,Option.some.injEq,Prod.mk.injEq] at h
      obtain ⟨rfl,rfl⟩:=h
      have e:=kEq_eq hk
      subst e
      exact ⟨[c],cs,rfl,by simp only [Lv] at h1; simp [Val,h1],h2⟩
    | _=>simp [dec] at h
 | .bool,l,x,r,cs,h,hl=>by
  cases l with
  | nil=>simp [dec] at h
  | cons v l =>
   cases cs with
   | nil=>exact absurd hl (by simp [R2])
   | cons c cs =>
    obtain ⟨h1,h2⟩:=hl
    cases v with
    | b y =>
     simp only [dec,Option.some.injEq,Prod.mk.injEq] at h
     obtain ⟨rfl,rfl⟩:=h
     exact ⟨[c],cs,rfl,by simp only [Lv] at h1; simp [Val,h1],h2⟩
    | _=>simp [dec] at h
 | .str,l,x,r,cs,h,hl=>by
  cases l with
  | nil=>simp [dec] at h
  | cons v l =>
   cases cs with
   | nil=>exact absurd hl (by simp [R2])
   | cons c cs =>
    obtain ⟨h1,h2⟩:=hl
    cases v with
    | s y =>
     simp only [dec,Option.some.injEq,Prod.mk.injEq] at h
     obtain ⟨rfl,rfl⟩:=h
     obtain ⟨s,e,hs⟩:=h1
     exact ⟨[c],cs,rfl,⟨s,by rw [e],hs⟩,h2⟩
    | _=>simp [dec] at h
 | .unit,l,x,r,cs,h,hl=>by
  simp only [dec,Option.some.injEq,Prod.mk.injEq] at h
  obtain ⟨_,rfl⟩:=h
  exact ⟨[],cs,rfl,rfl,hl⟩
 | .any,l,x,r,cs,h,hl=>by
  cases l with
  | nil=>simp [dec] at h
  | cons v l =>
   cases cs with
   | nil=>exact absurd hl (by simp [R2])
   | cons c cs =>
    obtain ⟨h1,h2⟩:=hl
    cases v with
    | any =>
     simp only [dec,Option.some.injEq,Prod.mk.injEq] at h
     obtain ⟨_,rfl⟩:=h
     exact ⟨[c],cs,rfl,⟨c,rfl,h1⟩,h2⟩
    | _=>simp [dec] at h
 | .osl T t,l,x,r,cs,h,hl=>by
  cases l with
  | nil=>simp [dec] at h
  | cons v l=>simp [dec] at h
 | .omp _ _,l,x,r,cs,h,hl=>by
  cases l with
  | nil=>simp [dec] at h
  | cons v l=>simp [dec] at h
 | .mp k u,l,x,r,cs,h,hl=>by
  cases l with
  | nil=>simp [dec] at h
  | cons v l =>
   cases cs with
   | nil=>exact absurd hl (by simp [R2])
   | cons c cs =>
    obtain ⟨h1,h2⟩:=hl
    cases v with
    | mp k' u' xs =>
     simp only [dec] at h
     cases hc : cast? (.mp k' u') (.mp k u) xs with
     | none=>simp [hc] at h
     | some ys =>
      simp only [hc,Option.some.injEq,Prod.mk.injEq] at h
      obtain ⟨rfl,rfl⟩:=h
      exact ⟨[c],cs,rfl,Val.cast hc (Val.mono (fun b hb=>⟨hG b hb,rfl⟩) (.mp k' u') xs [c] h1),h2⟩
    | map id =>
     simp only [dec] at h
     obtain ⟨_,e⟩:=h1
     subst e
     cases hf : find os id with
     | none=>simp [hf] at h
     | some o =>
      have hob:=ho id o hf
      cases o with
      | map k' u' xs =>
       simp only [hf] at h
       cases st with
       | true=>simp at h
       | false =>
        cases hc : cast? (.mp k' u') (.mp k u) xs with
        | none=>simp [hc] at h
        | some ys =>
         simp only [hc,Option.some.injEq,Prod.mk.injEq] at h
         obtain ⟨rfl,rfl⟩:=h
         have hm : MapAt m.w m.G k' u' xs (m.β id):=hob
         exact ⟨[_],cs,rfl,Val.cast hc ((hm.mono (fun b hb=>⟨hG b hb,rfl⟩) rfl).val (hR rfl id _ _ hf rfl)),h2⟩
      | _=>simp [hf] at h
    | _=>simp [dec] at h
 | .pair a b,l,x,r,cs,h,hl=>by
  simp only [dec] at h
  cases h1 : dec st os a l with
  | none=>simp [h1] at h
  | some p =>
   obtain ⟨x1,r1⟩:=p
   simp only [h1] at h
   cases h2 : dec st os b r1 with
   | none=>simp [h2] at h
   | some p =>
    obtain ⟨x2,r2⟩:=p
    simp only [h2,Option.some.injEq,Prod.mk.injEq] at h
    obtain ⟨rfl,rfl⟩:=h
    obtain ⟨c1,c2,rfl,hv1,hr1⟩:=dec_val ho hG hR a l x1 r1 cs h1 hl
    obtain ⟨c3,c4,rfl,hv2,hr2⟩:=dec_val ho hG hR b r1 x2 r2 c2 h2 hr1
    exact ⟨c1 ++ c3,c4,by simp,⟨c1,c3,rfl,hv1,hv2⟩,hr2⟩
 | .sl t,l,x,r,cs,h,hl=>by
  cases l with
  | nil=>simp [dec] at h
  | cons v l =>
   cases cs with
   | nil=>exact absurd hl (by simp [R2])
   | cons c cs =>
    obtain ⟨h1,h2⟩:=hl
    cases v with
    | sl u xs =>
     simp only [dec] at h
     cases hc : cast? (.sl u) (.sl t) xs with
     | none=>simp [hc] at h
     | some ys =>
      simp only [hc,Option.some.injEq,Prod.mk.injEq] at h
      obtain ⟨rfl,rfl⟩:=h
      exact ⟨[c],cs,rfl,Val.cast hc (Val.mono (fun b hb=>⟨hG b hb,rfl⟩) (.sl u) xs [c] h1),h2⟩
    | nil =>
     simp only [dec,Option.some.injEq,Prod.mk.injEq] at h
     obtain ⟨rfl,rfl⟩:=h
     simp only [Lv] at h1
     subst h1
     exact ⟨[_],cs,rfl,⟨none,0,0,rfl,rfl,Nat.le_refl _,fun j hj=>absurd hj (by simp)⟩,h2⟩
    | row id =>
     simp only [dec] at h
     obtain ⟨_,e,_⟩:=h1
     subst e
     cases hf : find os id with
     | none=>simp [hf] at h
     | some o =>
      have hob:=ho id o hf
      cases o with
      | var vs=>simp [hf] at h
      | mix=>simp [hf] at h
      | map=>simp [hf] at h
      | row T u q xs =>
       simp only [hf] at h
       cases st with
       | true=>simp at h
       | false =>
        simp only at h
        cases hc : cast? (.sl (frz u xs).1) (.sl t) (frz u xs).2 with
        | none=>simp [hc] at h
        | some ys =>
         simp only [hc,Option.some.injEq,Prod.mk.injEq] at h
         obtain ⟨rfl,rfl⟩:=h
         exact ⟨[_],cs,rfl,Val.cast hc (frz_val hob.1 hob.2.1 hG fun b hb=>hR rfl id _ b hf hb),h2⟩
      | frow u xs =>
       simp only [hf] at h
       cases hc : cast? (.sl u) (.sl t) xs with
       | none=>simp [hc] at h
       | some ys =>
        simp only [hc,Option.some.injEq,Prod.mk.injEq] at h
        obtain ⟨rfl,rfl⟩:=h
        exact ⟨[_],cs,rfl,Val.cast hc (Val.mono (fun b hb=>⟨hG b hb,rfl⟩) (.sl u) xs _ hob),h2⟩
    | rng id sz lo hi =>
     simp only [dec] at h
     cases hf : find os id with
     | none=>simp [hf] at h
     | some o =>
      have hob:=ho id o hf
      cases o with
      | var vs=>simp [hf] at h
      | mix=>simp [hf] at h
      | map=>simp [hf] at h
      | row T u q xs =>
       simp only [hf] at h
       cases st with
       | true=>simp at h
       | false =>
        cases hz : Nat.beq sz u.size with
        | false=>simp [hz] at h
        | true =>
         simp only [hz] at h
         cases hc : cast? (.sl (frz u xs).1) (.sl t) (frz u xs).2 with
         | none=>simp [hc] at h
         | some ys =>
          simp only [hc,Option.some.injEq,Prod.mk.injEq] at h
          obtain ⟨rfl,rfl⟩:=h
          have hv:=Val.cast hc (frz_val hob.1 hob.2.1 hG fun b hb=>hR rfl id _ b hf hb)
          have hsz : t.size = sz:=by
           rw [Nat.eq_of_beq_eq_true hz,← frz_size u xs]
           obtain ⟨e,_⟩:=cast?_some hc
           cases e; rfl
          exact ⟨[c],cs,rfl,rng_val hv hsz h1,h2⟩
      | frow u xs =>
       simp only [hf] at h
       cases hz : Nat.beq sz u.size with
       | false=>simp [hz] at h
       | true =>
        cases hc : cast? (.sl u) (.sl t) xs with
        | none=>simp [hz,hc] at h
        | some ys =>
         simp only [hz,hc,Option.some.injEq,Prod.mk.injEq] at h
         obtain ⟨rfl,rfl⟩:=h
         have hv:=Val.cast hc (Val.mono (fun b hb=>⟨hG b hb,rfl⟩) (.sl u) xs _ hob)
         have hsz : t.size = sz:=by
          rw [Nat.eq_of_beq_eq_true hz]
          obtain ⟨e,_⟩:=cast?_some hc
          cases e; rfl
         exact ⟨[c],cs,rfl,rng_val hv hsz h1,h2⟩
    | sub id n sz j off =>
     simp only [dec] at h
     cases hf : find os id with
     | none=>simp [hf] at h
     | some o =>
      have hob:=ho id o hf
      cases o with
      | var vs=>simp [hf] at h
      | mix=>simp [hf] at h
      | map=>simp [hf] at h
      | frow u xs=>simp [hf] at h
      | row T u q xs =>
       simp only [hf] at h
       cases st with
       | true=>simp at h
       | false =>
        cases hz : Nat.beq n q && Nat.beq sz u.size with
        | false=>simp [hz] at h
        | true =>
         simp only [hz] at h
         cases hg : getS u (xs.getD j u.zero) off with
         | none=>rw [hg] at h; cases h
         | some p =>
          obtain ⟨u',ys⟩:=p
          rw [hg] at h
          simp only at h
          cases hc : cast? (.sl u') (.sl t) ys with
          | none=>simp [hc] at h
          | some zs =>
           simp only [hc,Option.some.injEq,Prod.mk.injEq] at h
           obtain ⟨rfl,rfl⟩:=h
           rw [Bool.and_eq_true] at hz
           obtain ⟨hq,hz⟩:=hz
           have hq:=Nat.eq_of_beq_eq_true hq
           have hz:=Nat.eq_of_beq_eq_true hz
           subst hq; subst hz
           obtain ⟨T',v',xs',bl',e1,e2,e3,e4,e5⟩:=sub_row hob h1 hg
           have:=frz_val (Gd:=Gd) e1 e2 hG fun b hb=>hR rfl id _ b hf (e3 b hb)
           rw [e4] at this
           exact ⟨[c],cs,rfl,Val.cast hc this,h2⟩
    | _=>simp [dec] at h
theorem y31q (ho : ∀ i o,find os i = some o → Ob m i o) (hG : ∀ b,m.G b → Gd b)
  (hR : st = false → ∀ i o b,find os i = some o → frzB m i o b → Gd b)
  {t : Ty} {l : List V} {x : t.den} {cs : List Value} (h : y74q st os t l = some x) (hl : R2 (Lv m) l cs) : Val m.w Gd t x cs:=by
 unfold y74q at h
 cases hd : dec st os t l with
 | none=>simp [hd] at h
 | some p =>
  obtain ⟨y,r⟩:=p
  cases r with
  | cons a r=>simp [hd] at h
  | nil =>
   simp only [hd,Option.some.injEq] at h
   subst h
   obtain ⟨c1,c2,rfl,hv,hr⟩:=dec_val ho hG hR t l _ _ cs hd hl
   cases c2 with
   | nil=>simpa using hv
   | cons=>exact absurd hr (by simp [R2])
theorem decAll_val (ho : ∀ i o,find os i = some o → Ob m i o) (hG : ∀ b,m.G b → Gd b)
  (hR : st = false → ∀ i o b,find os i = some o → frzB m i o b → Gd b)
  {t : Ty} {s : SV} {x : t.den} {v : Value} (h : decAll st os t s = some x) (hs : Sv m s v) : ∃ cs,Val m.w Gd t x cs ∧ AsVal t cs v:=by
 unfold decAll at h
 cases s with
 | tup l=>simp at h
 | one y =>
  cases ha : t.isAgg with
  | true=>simp [ha] at h
  | false =>
   simp only [ha] at h
   exact ⟨[v],y31q ho hG hR h ⟨hs,trivial⟩,by simp [AsVal,ha]⟩
 | agg l =>
  cases ha : t.isAgg with
  | false=>simp [ha] at h
  | true =>
   simp only [ha] at h
   obtain ⟨cs,e,hr⟩:=hs
   exact ⟨cs,y31q ho hG hR h hr,by simp [AsVal,ha,e]⟩
end
theorem sv_ofTy {m : St} {t : Ty} {x : t.den} {cs : List Value} {v : Value} (h : Val m.w m.G t x cs) (ha : AsVal t cs v) : Sv m (ofTy t x) v:=by
 unfold ofTy
 have he:=Val.enc (m:=m) h
 cases hg : t.isAgg with
 | true =>
  simp only [AsVal,hg] at ha
  exact ⟨cs,ha,he⟩
 | false =>
  simp only [AsVal,hg] at ha
  subst ha
  cases hE : enc t x [] with
  | nil=>rw [hE] at he; exact absurd he (by simp [R2])
  | cons a l =>
   rw [hE] at he
   cases l with
   | nil=>exact he.1
   | cons b l=>exact absurd he.2 (by simp [R2])
theorem Val.flat {w w' : World} {G G' : Nat → Prop} : ∀ {t : Ty} {x : t.den} {cs : List Value},t.flat = true → Val w G t x cs → Val w' G' t x cs
 | .int _,_,_,_,h=>h
 | .bool,_,_,_,h=>h
 | .str,_,_,_,h=>h
 | .unit,_,_,_,h=>h
 | .pair a b,x,_,hf,⟨c1,c2,e,h1,h2⟩=>by
  simp only [Ty.flat,Bool.and_eq_true] at hf
  exact ⟨c1,c2,e,Val.flat hf.1 h1,Val.flat hf.2 h2⟩
 | .sl _,_,_,hf,_=>by simp [Ty.flat] at hf
 | .any,_,_,hf,_=>by simp [Ty.flat] at hf
 | .osl _ _,_,_,hf,_=>by simp [Ty.flat] at hf
 | .mp _ _,_,_,hf,_=>by simp [Ty.flat] at hf
 | .omp _ _,_,_,hf,_=>by simp [Ty.flat] at hf
theorem Lv.oneCell {m : St} : ∀ {x : V} {v : Value},Lv m x v → v.oneCell' = true ∧ v.cells = #[v]
 | .i ..,_,e=>by simp only [Lv] at e; subst e; exact ⟨rfl,rfl⟩
 | .b _,_,e=>by simp only [Lv] at e; subst e; exact ⟨rfl,rfl⟩
 | .s _,_,⟨_,e,_⟩=>by subst e; exact ⟨rfl,rfl⟩
 | .nil,_,e=>by simp only [Lv] at e; subst e; exact ⟨rfl,rfl⟩
 | .sl t xs,_,⟨_,_,_,e,_⟩=>by simp only [List.cons.injEq,and_true] at e; subst e; exact ⟨rfl,rfl⟩
 | .row id,_,⟨_,_,_,_,_,e⟩=>by subst e; exact ⟨rfl,rfl⟩
 | .loc id off,_,⟨_,e⟩=>by subst e; exact ⟨rfl,rfl⟩
 | .el t x off,_,⟨_,_,_,e,_⟩=>by subst e; exact ⟨rfl,rfl⟩
 | .rel id sz j off,_,⟨_,_,_,_,_,_,e⟩=>by subst e; exact ⟨rfl,rfl⟩
 | .clo f caps,_,⟨_,e,_⟩=>by subst e; exact ⟨rfl,rfl⟩
 | .ifc T id,_,⟨_,e,_⟩=>by subst e; exact ⟨rfl,rfl⟩
 | .any,_,h=>h
 | .map id,_,⟨_,e⟩=>by subst e; exact ⟨rfl,rfl⟩
 | .mp k u xs,_,h=>by rcases h with ⟨e,_⟩ | ⟨_,_,_,e,_⟩ <;> simp only [List.cons.injEq,and_true] at e <;> subst e <;> exact ⟨rfl,rfl⟩
 | .sub id q sz j off,_,⟨_,_,_,_,_,_,_,e⟩=>by subst e; exact ⟨rfl,rfl⟩
 | .rng id sz lo hi,_,⟨_,_,_,_,_,_,_,_,_,e,_⟩=>by subst e; exact ⟨rfl,rfl⟩
theorem R2.oneCells {m : St} : ∀ {l : List V} {cs : List Value},R2 (Lv m) l cs → ∀ v ∈ cs,v.oneCell' = true
 | [],[],_,v,h=>by simp at h
 | _ :: _,_ :: _,⟨h,r⟩,v,hv=>by
  rcases List.mem_cons.1 hv with e | e
  ·subst e; exact h.oneCell.1
  ·exact R2.oneCells r v e
theorem Sv.cells {m : St} {s : SV} {v : Value} (h : Sv m s v) (ht : s.isTup = false) : ∃ cs,v.cells = cs.toArray ∧ R2 (Lv m) s.cells cs:=by
 cases s with
 | tup l=>simp [SV.isTup] at ht
 | one x=>exact ⟨[v],by rw [Lv.oneCell h |>.2],⟨h,trivial⟩⟩
 | agg l =>
  obtain ⟨cs,e,hr⟩:=h
  exact ⟨cs,by rw [e]; rfl,hr⟩
theorem asSV_sv {m : St} {t : Ty} {l : List V} {cs : List Value} {s : SV} {v : Value} (h : asSV t l = some s) (hl : R2 (Lv m) l cs) (ha : AsVal t cs v) : Sv m s v:=by
 unfold asSV at h
 cases hg : t.isAgg with
 | true =>
  simp only [hg,Option.some.injEq] at h
  subst h
  simp only [AsVal,hg] at ha
  exact ⟨cs,ha,hl⟩
 | false =>
  simp only [hg] at h
  simp only [AsVal,hg] at ha
  subst ha
  match l,hl,h with
  | [x],hl,h=>simp only [Option.some.injEq] at h; subst h; exact hl.1
end Go.Ev
end
section
namespace Go.Ev
open Go.RowKit (Below)
variable {w0 : Base} {G0 : Nat → Prop} {N : Nat} {F : List (Nat × Obj)} {m m' : St} {os : List (Nat × Obj)} {e : Env} {tm : Array Value}
theorem blk_le (hle : m.le m') (ho : ∀ i o,find os i = some o → m.D i ∧ Ob m i o) (i : Nat) : blk os m' i = blk os m i:=by
 unfold blk
 cases hf : find os i with
 | none=>rfl
 | some o =>
  obtain ⟨hi,hob⟩:=ho i o hf
  cases o with
  | var vs=>simp [hle.β i hi]
  | row T t n xs=>simp [hle.σ n hob.2.2.2.2]
  | frow t xs=>rfl
  | mix T t n src q lo zs ys=>simp [hle.σ n hob.2.2.2.1]
  | map k v xs=>simp [hle.β i hi]
theorem ObjsOk.world (h : ObjsOk w0 G0 m os) (hle : m.le m') (hbase : Kept w0 m'.w)
  (hb : ∀ i b,blk os m i b → m'.w.heap[b]? = m.w.heap[b]?)
  (hG : ∀ b,m'.G b → (m.G b ∨ m.w.heap.size ≤ b) ∧ b < m'.w.heap.size) (hH : ∀ b,m'.H b → (m.H b ∨ m.w.heap.size ≤ b) ∧ b < m'.w.heap.size)
  (hsz : m.w.heap.size ≤ m'.w.heap.size) (hgh : ∀ b,m'.G b → m'.H b) : ObjsOk w0 G0 m' os:=by
 have hlt : ∀ i o,find os i = some o → m.D i:=fun i o hf=>(h.objs i o hf).1
 have hbl:=blk_le hle h.objs
 refine ⟨hbase,fun i o hf=>⟨hle.D _ (hlt i o hf),Ob.le hle (hlt i o hf) (h.objs i o hf).2 os hf (hb i)⟩,fun i j b h1 h2=>?_,fun i b h1=>?_,fun b hg=>(hG b hg).2,fun b hg=>(hH b hg).2,fun b hg=>?_,hgh⟩
 ·rw [hbl] at h1 h2
  exact h.inj i j b h1 h2
 ·rw [hbl] at h1
  obtain ⟨o1,o2,o3,o4⟩:=h.out i b h1
  refine ⟨fun hg=>?_,fun hg=>?_,by omega,o4⟩
  ·rcases (hG b hg).1 with hg | hg
   ·exact o1 hg
   ·omega
  ·rcases (hH b hg).1 with hg | hg
   ·exact o2 hg
   ·omega
 ·rcases (hG b hg).1 with hg | hg
  ·exact h.subG b hg
  ·have:=h.base.size
   exact .inr (.inl (by omega))
theorem ObjsOk.world2 (h : ObjsOk w0 G0 m os) (hle : m.le m') (hbase : Kept w0 m'.w)
  (hb : ∀ i b,blk os m i b → m'.w.heap[b]? = m.w.heap[b]?)
  (hG : ∀ b,m'.G b → (m.G b ∨ (Mine w0 b ∧ ∀ i,¬ blk os m i b)) ∧ b < m'.w.heap.size) (hH : ∀ b,m'.H b → (m.H b ∨ (Mine w0 b ∧ ∀ i,¬ blk os m i b)) ∧ b < m'.w.heap.size)
  (hsz : m.w.heap.size ≤ m'.w.heap.size) (hgh : ∀ b,m'.G b → m'.H b) : ObjsOk w0 G0 m' os:=by
 have hlt : ∀ i o,find os i = some o → m.D i:=fun i o hf=>(h.objs i o hf).1
 have hbl:=blk_le hle h.objs
 refine ⟨hbase,fun i o hf=>⟨hle.D _ (hlt i o hf),Ob.le hle (hlt i o hf) (h.objs i o hf).2 os hf (hb i)⟩,fun i j b h1 h2=>?_,fun i b h1=>?_,fun b hg=>(hG b hg).2,fun b hg=>(hH b hg).2,fun b hg=>?_,hgh⟩
 ·rw [hbl] at h1 h2
  exact h.inj i j b h1 h2
 ·rw [hbl] at h1
  obtain ⟨o1,o2,o3,o4⟩:=h.out i b h1
  exact ⟨fun hg=>(hG b hg).1.elim o1 fun q=>q.2 i h1,fun hg=>(hH b hg).1.elim o2 fun q=>q.2 i h1,by omega,o4⟩
 ·exact (hG b hg).1.elim (h.subG b) fun q=>.inr q.1
theorem ObjsOk.more (h : ObjsOk w0 G0 m os) {n : Nat} (hle : m.le m') (hD : m'.D n) (o : Obj) (hbase : Kept w0 m'.w)
  (hb : ∀ i b,blk os m i b → m'.w.heap[b]? = m.w.heap[b]?)
  (hG : ∀ b,m'.G b → (m.G b ∨ m.w.heap.size ≤ b) ∧ b < m'.w.heap.size) (hH : ∀ b,m'.H b → (m.H b ∨ m.w.heap.size ≤ b) ∧ b < m'.w.heap.size)
  (hsz : m.w.heap.size ≤ m'.w.heap.size) (hgh : ∀ b,m'.G b → m'.H b) (ho : Ob m' n o)
  (hn : ∀ b,blk ((n,o) :: os) m' n b → ¬ m'.G b ∧ ¬ m'.H b ∧ b < m'.w.heap.size ∧ Mine w0 b ∧ ∀ i,¬ blk os m i b) : ObjsOk w0 G0 m' ((n,o) :: os):=by
 have h':=h.world hle hbase hb hG hH hsz hgh
 have hlt : ∀ i o,find os i = some o → m.D i:=fun i o hf=>(h.objs i o hf).1
 have hbl:=blk_le hle h.objs
 have hold : ∀ i,i ≠ n → blk ((n,o) :: os) m' i = blk os m' i:=fun i hi=>by
  unfold blk
  rw [y14q,if_neg (fun e=>hi e.symm)]
 refine ⟨hbase,fun i p hf=>?_,fun i j b h1 h2=>?_,fun i b h1=>?_,h'.liveG,h'.liveH,h'.subG,hgh⟩
 ·rw [y14q] at hf
  by_cases hi : n = i
  ·rw [if_pos hi] at hf
   obtain rfl:=Option.some.inj hf
   subst hi
   exact ⟨hD,ho⟩
  ·rw [if_neg hi] at hf
   exact h'.objs i p hf
 ·by_cases hi : i = n <;> by_cases hj : j = n
  ·rw [hi,hj]
  ·subst hi
   rw [hold j hj,hbl] at h2
   exact absurd h2 ((hn b h1).2.2.2.2 j)
  ·subst hj
   rw [hold i hi,hbl] at h1
   exact absurd h1 ((hn b h2).2.2.2.2 i)
  ·rw [hold i hi] at h1
   rw [hold j hj] at h2
   exact h'.inj i j b h1 h2
 ·by_cases hi : i = n
  ·subst hi
   obtain ⟨a1,a2,a3,a4,_⟩:=hn b h1
   exact ⟨a1,a2,a3,a4⟩
  ·rw [hold i hi] at h1
   exact h'.out i b h1
theorem ObjsOk.new (h : ObjsOk w0 G0 m os) {n : Nat} (hfr : ¬ m.D n) (hle : m.le m') (hD : m'.D n) (o : Obj) (hbase : Kept w0 m'.w)
  (hb : ∀ i b,blk os m i b → m'.w.heap[b]? = m.w.heap[b]?)
  (hG : ∀ b,m'.G b → (m.G b ∨ m.w.heap.size ≤ b) ∧ b < m'.w.heap.size) (hH : ∀ b,m'.H b → (m.H b ∨ m.w.heap.size ≤ b) ∧ b < m'.w.heap.size)
  (hsz : m.w.heap.size ≤ m'.w.heap.size) (hgh : ∀ b,m'.G b → m'.H b) (ho : Ob m' n o)
  (hn : ∀ b,blk ((n,o) :: os) m' n b → ¬ m'.G b ∧ ¬ m'.H b ∧ b < m'.w.heap.size ∧ Mine w0 b ∧ ∀ i,¬ blk os m i b) : ObjsOk w0 G0 m' ((n,o) :: os):=h.more hle hD o hbase hb hG hH hsz hgh ho hn
theorem ObjsOk.put (h : ObjsOk w0 G0 m os) (hle : m.le m') (i : Nat) (o o' : Obj) (hi : find os i = some o) (hbase : Kept w0 m'.w)
  (hb : ∀ j b,j ≠ i → blk os m j b → m'.w.heap[b]? = m.w.heap[b]?)
  (hG : ∀ b,m'.G b → m.G b) (hH : ∀ b,m'.H b → m.H b)
  (hsz : m.w.heap.size = m'.w.heap.size) (hgh : ∀ b,m'.G b → m'.H b) (ho : Ob m' i o')
  (hn : ∀ b,blk (upd os i o') m' i b → blk os m i b) : ObjsOk w0 G0 m' (upd os i o'):=by
 have hlt : ∀ i o,find os i = some o → m.D i:=fun i o hf=>(h.objs i o hf).1
 have hbl:=blk_le hle h.objs
 have hold : ∀ j,j ≠ i → blk (upd os i o') m' j = blk os m j:=fun j hj=>by
  rw [← hbl]
  unfold blk
  rw [y46q,if_neg (fun e=>hj e.symm)]
 have hall : ∀ j b,blk (upd os i o') m' j b → blk os m j b:=fun j b hh=>by
  by_cases hj : j = i
  ·subst hj; exact hn b hh
  ·rw [hold j hj] at hh; exact hh
 refine ⟨hbase,fun j p hf=>?_,fun j k b h1 h2=>h.inj j k b (hall j b h1) (hall k b h2),fun j b h1=>?_,fun b hg=>?_,fun b hg=>?_,fun b hg=>h.subG b (hG b hg),hgh⟩
 ·rw [y46q] at hf
  by_cases hj : i = j
  ·rw [if_pos hj,hi] at hf
   obtain rfl:=Option.some.inj hf
   subst hj
   exact ⟨hle.D _ (hlt i o hi),ho⟩
  ·rw [if_neg hj] at hf
   exact ⟨hle.D _ (hlt j p hf),Ob.le hle (hlt j p hf) (h.objs j p hf).2 os hf fun b hh=>hb j b (fun e=>hj e.symm) hh⟩
 ·obtain ⟨a1,a2,a3,a4⟩:=h.out j b (hall j b h1)
  refine ⟨fun hg=>a1 (hG b hg),fun hg=>a2 (hH b hg),by omega,a4⟩
 ·have:=h.liveG b (hG b hg); omega
 ·have:=h.liveH b (hH b hg); omega
theorem ObjsOk.erase (h : ObjsOk w0 G0 m os) (i : Nat) : ObjsOk w0 G0 m (erase os i):=by
 have hb : ∀ j b,blk (Ev.erase os i) m j b → blk os m j b ∧ j ≠ i:=fun j b hh=>by
  unfold blk at hh ⊢
  rw [y30q (α:=Nat)] at hh
  by_cases hj : i = j
  ·rw [if_pos hj] at hh; simp at hh
  ·rw [if_neg hj] at hh; exact ⟨hh,fun e=>hj e.symm⟩
 refine ⟨h.base,fun j p hf=>?_,fun j k b h1 h2=>h.inj j k b (hb j b h1).1 (hb k b h2).1,fun j b h1=>h.out j b (hb j b h1).1,h.liveG,h.liveH,h.subG,h.gh⟩
 rw [y30q (α:=Nat)] at hf
 by_cases hj : i = j
 ·rw [if_pos hj] at hf; simp at hf
 ·rw [if_neg hj] at hf; exact h.objs j p hf
theorem ObjsOk.eraseAll : ∀ (l : List Nat) {os : List (Nat × Obj)},ObjsOk w0 G0 m os → ObjsOk w0 G0 m (eraseAll l os)
 | [],_,h=>h
 | i :: r,_,h=>ObjsOk.eraseAll r (h.erase i)
theorem Rel.set (h : Rel w0 G0 N F m e tm) {d : Nat} {sv : SV} {v : Value} (hp : ∀ u,(d,u) ∉ w0.pins) (hd : d < N) (hv : Sv m sv v) : Rel w0 G0 N F m (e.set d sv) (tm.setIfInBounds d v):=by
 refine ⟨h.ok,h.disj,⟨by simp [h.tms.1],fun i u hu=>?_⟩,fun t s hf=>?_⟩
 ·have hne : d ≠ i:=fun q=>hp u (q ▸ hu)
  rw [Array.getElem?_setIfInBounds_ne hne]
  exact h.tms.2 i u hu
 simp only [Env.set] at hf
 rw [y14q] at hf
 by_cases ht : d = t
 ·rw [if_pos ht] at hf
  obtain rfl:=Option.some.inj hf
  subst ht
  exact ⟨v,by rw [Array.getElem?_setIfInBounds_self_of_lt (by rw [h.tms.1]; exact hd)],hv⟩
 ·rw [if_neg ht] at hf
  obtain ⟨u,hu,hs⟩:=h.slots t s hf
  exact ⟨u,by rw [Array.getElem?_setIfInBounds_ne ht]; exact hu,hs⟩
theorem Rel.reset (h : Rel w0 G0 N F m e tm) {d : Nat} {sv : SV} {v : Value} (hd : tm[d]? = some v) (hv : Sv m sv v) : Rel w0 G0 N F m (e.set d sv) tm:=by
 refine ⟨h.ok,h.disj,h.tms,fun t s hf=>?_⟩
 simp only [Env.set] at hf
 rw [y14q] at hf
 by_cases ht : d = t
 ·rw [if_pos ht] at hf
  obtain rfl:=Option.some.inj hf
  subst ht
  exact ⟨v,hd,hv⟩
 ·rw [if_neg ht] at hf
  exact h.slots t s hf
theorem Rel.world (h : Rel w0 G0 N F m e tm) (hle : m.le m') (ho : ObjsOk w0 G0 m' (e.objs ++ F)) : Rel w0 G0 N F m' e tm :=
 ⟨ho,h.disj,h.tms,fun t s hf=>by
  obtain ⟨v,hv,hs⟩:=h.slots t s hf
  exact ⟨v,hv,hs.le hle⟩⟩
theorem ObjsOk.congr {os' : List (Nat × Obj)} (h : ObjsOk w0 G0 m os) (hf : ∀ i,find os' i = find os i) : ObjsOk w0 G0 m os':=by
 have hb : ∀ i,blk os' m i = blk os m i:=fun i=>by unfold blk; rw [hf]
 refine ⟨h.base,fun i o ho=>h.objs i o (by rw [← hf]; exact ho),fun i j b h1 h2=>h.inj i j b (by rw [← hb]; exact h1) (by rw [← hb]; exact h2),fun i b h1=>h.out i b (by rw [← hb]; exact h1),h.liveG,h.liveH,h.subG,h.gh⟩
theorem Rel.obj (h : Rel w0 G0 N F m e tm) (i : Nat) (o : Obj) (hf : find e.objs i = some o) : m.D i ∧ Ob m i o:=h.ok.objs i o (y91q hf)
theorem y38q {l l' : List (Nat × Obj)} {i b : Nat} (h : blk l m i b) : blk (l ++ l') m i b:=by
 unfold blk at h ⊢
 rw [y29q]
 cases hf : find l i with
 | none=>rw [hf] at h; simp at h
 | some o=>rw [hf] at h; exact h
theorem upd_left {l l' : List (Nat × Obj)} {id : Nat} {o : Obj} (x : Obj) (h : find l id = some o) (i : Nat) : find (upd l id x ++ l') i = find (upd (l ++ l') id x) i:=by
 rw [y29q,y46q,y46q]
 by_cases hi : id = i
 ·subst hi
  rw [if_pos rfl,if_pos rfl,y29q,h]
  rfl
 ·rw [if_neg hi,if_neg hi,y29q]
theorem y93q {l l' : List (Nat × Obj)} {id : Nat} (h : find l' id = none) (i : Nat) : find (erase l id ++ l') i = find (erase (l ++ l') id) i:=by
 rw [y29q,y30q (α:=Nat),y30q (α:=Nat)]
 by_cases hi : id = i
 ·subst hi
  rw [if_pos rfl,if_pos rfl]
  exact h
 ·rw [if_neg hi,if_neg hi,y29q]
theorem Rel.objs (h : Rel w0 G0 N F m e tm) (hle : m.le m') (os' : List (Nat × Obj)) (n : Nat) (ho : ObjsOk w0 G0 m' (os' ++ F)) (hd : ∀ i o,find os' i = some o → find F i = none) : Rel w0 G0 N F m' ⟨e.slots,os',n⟩ tm :=
 ⟨ho,hd,h.tms,fun t s hf=>by
  obtain ⟨v,hv,hs⟩:=h.slots t s hf
  exact ⟨v,hv,hs.le hle⟩⟩
theorem le_alloc (m : St) (h1 : ∀ b,m.G b → b < m.w.heap.size) (h2 : ∀ b,m.H b → b < m.w.heap.size) (o : Go.Obj) : m.le { m with w:=m.w.alloc o } :=
 ⟨fun b hb=>⟨hb,Below.heap_alloc _ _ _ (h1 b hb)⟩,fun b hb=>⟨hb,Below.heap_alloc _ _ _ (h2 b hb)⟩,fun _ h=>h,fun _ _=>rfl,fun _ _=>rfl,fun _ _=>rfl,fun _ _=>rfl⟩
theorem le_drew (m : St) : m.le { m with w:=m.w.drew }:=⟨fun _ hb=>⟨hb,rfl⟩,fun _ hb=>⟨hb,rfl⟩,fun _ h=>h,fun _ _=>rfl,fun _ _=>rfl,fun _ _=>rfl,fun _ _=>rfl⟩
theorem ObjsOk.newVar (h : ObjsOk w0 G0 m os) (vs : List V) (cs : List Value) (T : Nat) (hr : R2 (Lv m) vs cs) {n : Nat} (hfr : ¬ m.D n) :
  ∃ m',m.le m' ∧ m'.w = m.w.alloc (.cells cs.toArray T) ∧ (∀ i,m'.D i ↔ m.D i ∨ i = n) ∧ m'.β n = m.w.heap.size ∧ ObjsOk w0 G0 m' ((n, .var vs) :: os):=by
 let m' : St:={ m with w:=m.w.alloc (.cells cs.toArray T),β:=fun i=>if i = n then m.w.heap.size else m.β i,D:=fun i=>m.D i ∨ i = n }
 have hle : m.le m':=⟨fun b hb=>⟨hb,Below.heap_alloc _ _ _ (h.liveG b hb)⟩,fun b hb=>⟨hb,Below.heap_alloc _ _ _ (h.liveH b hb)⟩,fun _ h=>.inl h,
  fun i hi=>if_neg (fun (e : i = n)=>hfr (e ▸ hi)),fun _ _=>rfl,fun _ _=>rfl,fun _ _=>rfl⟩
 have hβ : m'.β n = m.w.heap.size:=if_pos rfl
 refine ⟨m',hle,rfl,fun _=>Iff.rfl,hβ,h.new hfr hle (.inr rfl) _ (h.base.alloc h.base.size _) (fun i b hb=>Below.heap_alloc _ _ _ (h.out i b hb).2.2.1) (fun b hb=>⟨.inl hb, ?_⟩) (fun b hb=>⟨.inl hb, ?_⟩) (by simp [m']) h.gh ?_ ?_⟩
 ·have:=h.liveG b hb; simp [m']; omega
 ·have:=h.liveH b hb; simp [m']; omega
 ·exact ⟨cs,T,by rw [hβ]; exact heap_alloc_new m.w _,hr.imp fun _ _ hx=>Lv.le hle hx⟩
 ·intro b hb
  unfold blk at hb
  rw [y14q,if_pos rfl] at hb
  simp only [hβ] at hb
  subst hb
  refine ⟨fun hg=>?_,fun hg=>?_,by simp [m'], .inl h.base.size,fun i hi=>?_⟩
  ·have:=h.liveG _ hg; omega
  ·have:=h.liveH _ hg; omega
  ·have:=(h.out i _ hi).2.2.1; omega
theorem y144q : ∀ {t : Ty} {o : Nat},t.noOwn = true → ownAt t o = false
 | .osl _ _,_,h=>by simp [Ty.noOwn] at h
 | .pair a b,o,h=>by
  simp only [Ty.noOwn,Bool.and_eq_true] at h
  simp only [ownAt]
  split
  ·exact y144q h.1
  ·exact y144q h.2
 | .int _,_,_ | .bool,_,_ | .str,_,_ | .sl _,_,_ | .unit,_,_ | .any,_,_ | .mp _ _,_,_=>rfl
 | .omp _ _,_,h=>by simp [Ty.noOwn] at h
theorem Inn.nil {w : World} {G : Nat → Prop} : ∀ {t : Ty} {x : t.den} {cs : List Value},t.noOwn = true → cs.length = t.size → Inn w G t x cs []
 | .osl _ _,_,_,h,_=>by simp [Ty.noOwn] at h
 | .pair a b,x,cs,h,hl=>by
  simp only [Ty.noOwn,Bool.and_eq_true] at h
  simp only [Ty.size] at hl
  exact ⟨cs.take a.size,cs.drop a.size,[],[],by simp,by simp; omega,rfl,Inn.nil h.1 (by simp; omega),Inn.nil h.2 (by simp; omega)⟩
 | .int _,_,_,_,_ | .bool,_,_,_,_ | .str,_,_,_,_ | .sl _,_,_,_,_ | .unit,_,_,_,_ | .any,_,_,_,_ | .mp _ _,_,_,_,_=>rfl
 | .omp _ _,_,_,h,_=>by simp [Ty.noOwn] at h
theorem Inn.is_nil {w : World} {G : Nat → Prop} : ∀ {t : Ty} {x : t.den} {cs : List Value} {bl : List Nat},t.noOwn = true → Inn w G t x cs bl → bl = []
 | .osl _ _,_,_,_,h,_=>by simp [Ty.noOwn] at h
 | .pair a b,x,cs,bl,h,⟨_,_,_,_,_,_,e,h1,h2⟩=>by
  simp only [Ty.noOwn,Bool.and_eq_true] at h
  rw [e,Inn.is_nil h.1 h1,Inn.is_nil h.2 h2]
  rfl
 | .int _,_,_,_,_,h | .bool,_,_,_,_,h | .str,_,_,_,_,h | .sl _,_,_,_,_,h | .unit,_,_,_,_,h | .any,_,_,_,_,h | .mp _ _,_,_,_,_,h=>h
 | .omp _ _,_,_,_,h,_=>by simp [Ty.noOwn] at h
theorem RowAt.inn {w : World} {G : Nat → Prop} {T : Nat} {t : Ty} {xs : List t.den} {v : Value} (h : RowAt w G T t xs v) (ht : t.noOwn = true) : RowIn w G t xs v v.ownBlock.toList:=by
 rcases h with ⟨rfl,rfl⟩ | ⟨b,c,cs,e,hh,h1,h2,h3,hx⟩
 ·exact .inl ⟨rfl,rfl⟩
 ·subst e
  refine .inr ⟨b,rfl,List.replicate xs.length [],by simp [Value.ownBlock],by simp,fun j hj=>?_⟩
  obtain ⟨cs',hc,hv⟩:=hx j hj
  refine ⟨cs',hc,hv.length, ?_⟩
  rw [show (List.replicate xs.length ([] : List Nat)).getD j [] = [] from by simp [List.getD_eq_getElem?_getD,List.getElem?_replicate,hj]]
  exact Inn.nil ht hv.length
theorem getD_mem {bls : List (List Nat)} {j : Nat} (hj : j < bls.length) : bls.getD j [] ∈ bls:=by
 rw [List.getD_eq_getElem?_getD,List.getElem?_eq_getElem hj]
 exact List.getElem_mem hj
theorem RowIn.is_own {w : World} {G : Nat → Prop} {t : Ty} {xs : List t.den} {v : Value} {bl : List Nat} (h : RowIn w G t xs v bl) (ht : t.noOwn = true) : bl = v.ownBlock.toList:=by
 rcases h with ⟨e,rfl⟩ | ⟨b,e,bls,rfl,hl,hx⟩
 ·rw [e]; rfl
 ·rw [e]
  have : bls.flatten = []:=by
   rw [List.flatten_eq_nil_iff]
   intro l hm
   obtain ⟨j,hj,rfl⟩:=List.mem_iff_getElem.1 hm
   obtain ⟨cs,_,_,h3⟩:=hx j (by omega)
   have:=Inn.is_nil ht h3
   rwa [List.getD_eq_getElem?_getD,List.getElem?_eq_getElem hj] at this
  rw [this]
  rfl
theorem HdOk.none {w : World} {h : Nat → Value} {t : Ty} {xs : List t.den} {v : Value} (ht : t.noOwn = true) : HdOk w h t xs v:=fun b _ j _ o ho=>by rw [y144q ht] at ho; cases ho
theorem Inn.hdr {w : World} {G : Nat → Prop} : ∀ {t : Ty} {x : t.den} {cs : List Value} {bl : List Nat} {o : Nat},Inn w G t x cs bl → ownAt t o = true → ∃ A n c,cs[o]? = some (.slice A n c)
 | .osl T t,xs,cs,bl,o,⟨v,e,hr,_⟩,ho=>by
  have ho:=Nat.eq_of_beq_eq_true ho
  subst ho; subst e
  rcases hr with ⟨e,_⟩ | ⟨b,c,cs,e,_⟩
  ·exact ⟨_,_,_,by rw [e]; rfl⟩
  ·exact ⟨_,_,_,by rw [e]; rfl⟩
 | .pair a b,x,cs,bl,o,⟨c1,c2,b1,b2,e1,e2,e3,h1,h2⟩,ho=>by
  simp only [ownAt] at ho
  subst e1
  split at ho
  ·rename_i hb
   have hlt : o < a.size:=by rw [Nat.blt_eq] at hb; exact hb
   obtain ⟨A,n,c,h⟩:=Inn.hdr h1 ho
   exact ⟨A,n,c,by rw [List.getElem?_append_left (by omega)]; exact h⟩
  ·rename_i hb
   have hge : a.size ≤ o:=by
    rcases Nat.lt_or_ge o a.size with h | h
    ·have : Nat.blt o a.size = true:=by rw [Nat.blt_eq]; exact h
     rw [this] at hb; cases hb
    ·exact h
   obtain ⟨A,n,c,h⟩:=Inn.hdr h2 ho
   exact ⟨A,n,c,by rw [List.getElem?_append_right (by omega),e2]; exact h⟩
theorem RowIn.hd {w : World} {G : Nat → Prop} {t : Ty} {xs : List t.den} {v : Value} {bl : List Nat} (h : RowIn w G t xs v bl) : ∃ f : Nat → Value,HdOk w f t xs v:=by
 rcases h with ⟨e,_⟩ | ⟨b,e,bls,_,hl,hx⟩
 ·exact ⟨fun _=>.bool true,fun b hb=>by rw [e] at hb; cases hb⟩
 ·refine ⟨fun p=>(w.cell? ⟨b,p,none⟩).getD (.bool true),fun b' hb j hj o ho=>?_⟩
  rw [e] at hb
  obtain rfl:=Option.some.inj hb
  obtain ⟨cs,hc,hlen,hi⟩:=hx j hj
  obtain ⟨A,n,c,hv⟩:=hi.hdr ho
  have hcell:=hc o _ hv
  refine ⟨fun q u hu=>?_,A,n,c,by simp only [hcell]; rfl⟩
  cases q with
  | zero =>
   simp only [List.getElem?_cons_zero,Option.some.injEq] at hu
   subst hu
   simp only [Nat.add_zero,hcell]
   rfl
  | succ q=>simp at hu
theorem ObjsOk.newRowX (h : ObjsOk w0 G0 m os) (w' : World) (T : Nat) (t : Ty) (xs : List t.den) (v : Value) (bl : List Nat) (hbase : Kept w0 w')
  (hGs : ∀ b,m.G b → w'.heap[b]? = m.w.heap[b]?) (hHs : ∀ b,m.H b → w'.heap[b]? = m.w.heap[b]?) (hsz : m.w.heap.size ≤ w'.heap.size)
  (hb : ∀ i b,blk os m i b → w'.heap[b]? = m.w.heap[b]?) (hrow : RowAt w' m.G T t xs v) (hin : RowIn w' m.G t xs v bl) (hnd : bl.Nodup)
  {n : Nat} (hfr : ¬ m.D n) (hn : ∀ b ∈ bl,Mine w0 b ∧ b < w'.heap.size ∧ ¬ m.G b ∧ ¬ m.H b ∧ ∀ i,¬ blk os m i b) :
  ∃ m',m.le m' ∧ m'.w = w' ∧ (∀ i,m'.D i ↔ m.D i ∨ i = n) ∧ m'.ν n = v ∧ m'.G = m.G ∧ m'.H = m.H ∧ m'.σ n = bl ∧ ObjsOk w0 G0 m' ((n, .row T t n xs) :: os):=by
 obtain ⟨f,hf⟩:=hin.hd
 let m' : St:={ m with w:=w',ν:=fun i=>if i = n then v else m.ν i,D:=fun i=>m.D i ∨ i = n,σ:=fun i=>if i = n then bl else m.σ i,hd:=fun i=>if i = n then f else m.hd i }
 have hle : m.le m':=⟨fun b hb=>⟨hb,hGs b hb⟩,fun b hb=>⟨hb,hHs b hb⟩,fun _ h=>.inl h,fun _ _=>rfl,fun i hi=>if_neg (fun (e : i = n)=>hfr (e ▸ hi)),fun i hi=>if_neg (fun (e : i = n)=>hfr (e ▸ hi)),fun i hi=>if_neg (fun (e : i = n)=>hfr (e ▸ hi))⟩
 have hν : m'.ν n = v:=if_pos rfl
 have hσ : m'.σ n = bl:=if_pos rfl
 have hhd : m'.hd n = f:=if_pos rfl
 refine ⟨m',hle,rfl,fun _=>Iff.rfl,hν,rfl,rfl,hσ,h.new hfr hle (.inr rfl) _ hbase hb (fun b hb=>⟨.inl hb, ?_⟩) (fun b hb=>⟨.inl hb, ?_⟩) hsz h.gh ?_ ?_⟩
 ·have:=h.liveG b hb; exact Nat.lt_of_lt_of_le this hsz
 ·have:=h.liveH b hb; exact Nat.lt_of_lt_of_le this hsz
 ·show RowAt w' m.G T t xs (m'.ν n) ∧ RowIn w' m.G t xs (m'.ν n) (m'.σ n) ∧ (m'.σ n).Nodup ∧ HdOk w' (m'.hd n) t xs (m'.ν n) ∧ m'.D n
  rw [hν,hσ,hhd]; exact ⟨hrow,hin,hnd,hf, .inr rfl⟩
 ·intro b hb
  unfold blk at hb
  rw [y14q,if_pos rfl] at hb
  simp only [hσ] at hb
  obtain ⟨h1,h2,h3,h4,h5⟩:=hn b hb
  exact ⟨h3,h4,h2,h1,h5⟩
theorem ObjsOk.newMap (h : ObjsOk w0 G0 m os) (w' : World) (k v : Ty) (xs : List (k.den × v.den)) (b : Nat) (hbase : Kept w0 w')
  (hGs : ∀ b,m.G b → w'.heap[b]? = m.w.heap[b]?) (hHs : ∀ b,m.H b → w'.heap[b]? = m.w.heap[b]?) (hsz : m.w.heap.size ≤ w'.heap.size)
  (hb : ∀ i b,blk os m i b → w'.heap[b]? = m.w.heap[b]?) (hmap : MapAt w' m.G k v xs b)
  {n : Nat} (hfr : ¬ m.D n) (hn : Mine w0 b ∧ ¬ m.G b ∧ ¬ m.H b ∧ ∀ i,¬ blk os m i b) :
  ∃ m',m.le m' ∧ m'.w = w' ∧ (∀ i,m'.D i ↔ m.D i ∨ i = n) ∧ m'.β n = b ∧ m'.G = m.G ∧ m'.H = m.H ∧ ObjsOk w0 G0 m' ((n, .map k v xs) :: os):=by
 let m' : St:={ m with w:=w',β:=fun i=>if i = n then b else m.β i,D:=fun i=>m.D i ∨ i = n }
 have hle : m.le m':=⟨fun b hb=>⟨hb,hGs b hb⟩,fun b hb=>⟨hb,hHs b hb⟩,fun _ h=>.inl h,fun i hi=>if_neg (fun (e : i = n)=>hfr (e ▸ hi)),fun _ _=>rfl,fun _ _=>rfl,fun _ _=>rfl⟩
 have hβ : m'.β n = b:=if_pos rfl
 refine ⟨m',hle,rfl,fun _=>Iff.rfl,hβ,rfl,rfl,h.new hfr hle (.inr rfl) _ hbase hb (fun b hb=>⟨.inl hb, ?_⟩) (fun b hb=>⟨.inl hb, ?_⟩) hsz h.gh ?_ ?_⟩
 ·have:=h.liveG b hb; exact Nat.lt_of_lt_of_le this hsz
 ·have:=h.liveH b hb; exact Nat.lt_of_lt_of_le this hsz
 ·show MapAt w' m.G k v xs (m'.β n)
  rw [hβ]; exact hmap
 ·intro c hc
  unfold blk at hc
  rw [y14q,if_pos rfl] at hc
  simp only [hβ] at hc
  subst hc
  exact ⟨hn.2.1,hn.2.2.1,hmap.lt,hn.1,hn.2.2.2⟩
theorem ObjsOk.newRow' (h : ObjsOk w0 G0 m os) (w' : World) (T : Nat) (t : Ty) (xs : List t.den) (v : Value) (bl : List Nat) (hbase : Kept w0 w')
  (hGs : ∀ b,m.G b → w'.heap[b]? = m.w.heap[b]?) (hHs : ∀ b,m.H b → w'.heap[b]? = m.w.heap[b]?) (hsz : m.w.heap.size ≤ w'.heap.size)
  (hb : ∀ i b,blk os m i b → w'.heap[b]? = m.w.heap[b]?) (hrow : RowAt w' m.G T t xs v) (hin : RowIn w' m.G t xs v bl) (hnd : bl.Nodup)
  {n : Nat} (hfr : ¬ m.D n) (hn : ∀ b ∈ bl,Mine w0 b ∧ b < w'.heap.size ∧ ¬ m.G b ∧ ¬ m.H b ∧ ∀ i,¬ blk os m i b) :
  ∃ m',m.le m' ∧ m'.w = w' ∧ (∀ i,m'.D i ↔ m.D i ∨ i = n) ∧ m'.ν n = v ∧ ObjsOk w0 G0 m' ((n, .row T t n xs) :: os) :=
 let ⟨m',h1,h2,h3,h4,_,_,_,h5⟩:=h.newRowX w' T t xs v bl hbase hGs hHs hsz hb hrow hin hnd hfr hn
 ⟨m',h1,h2,h3,h4,h5⟩
theorem ObjsOk.newRow (h : ObjsOk w0 G0 m os) (w' : World) (T : Nat) (t : Ty) (xs : List t.den) (v : Value) (ht : t.noOwn = true) (hbase : Kept w0 w')
  (hGs : ∀ b,m.G b → w'.heap[b]? = m.w.heap[b]?) (hHs : ∀ b,m.H b → w'.heap[b]? = m.w.heap[b]?) (hsz : m.w.heap.size ≤ w'.heap.size)
  (hb : ∀ i b,blk os m i b → w'.heap[b]? = m.w.heap[b]?) (hrow : RowAt w' m.G T t xs v)
  {n : Nat} (hfr : ¬ m.D n) (hn : ∀ a n c,v = .slice (some a) n c → Mine w0 a.block ∧ a.block < w'.heap.size ∧ ¬ m.G a.block ∧ ¬ m.H a.block ∧ ∀ i,¬ blk os m i a.block) :
  ∃ m',m.le m' ∧ m'.w = w' ∧ (∀ i,m'.D i ↔ m.D i ∨ i = n) ∧ m'.ν n = v ∧ ObjsOk w0 G0 m' ((n, .row T t n xs) :: os) :=
 h.newRow' w' T t xs v _ hbase hGs hHs hsz hb hrow (hrow.inn ht) (by cases v.ownBlock <;> simp) hfr fun b hb=>by
  obtain ⟨a,n,c,hv,rfl⟩:=ownBlock_some (by simpa using hb)
  exact hn a n c hv
structure Frz (os os' : List (Nat × Obj)) (m m' : St) : Prop where
 le : m.le m'
 w : m'.w = m.w
 D : m'.D = m.D
 β : m'.β = m.β
 ν : m'.ν = m.ν
 σ : m'.σ = m.σ
 blk : ∀ i b,blk os' m' i b → blk os m i b
 G : ∀ b,m'.G b → m.G b ∨ ∃ i,Ev.blk os m i b
 H : ∀ b,m'.H b → m.H b ∨ ∃ i,Ev.blk os m i b
theorem Frz.refl (os : List (Nat × Obj)) (m : St) : Frz os os m m:=⟨.refl m,rfl,rfl,rfl,rfl,rfl,fun _ _ h=>h,fun _ h=>.inl h,fun _ h=>.inl h⟩
theorem Frz.trans {a b c : List (Nat × Obj)} {m1 m2 m3 : St} (h : Frz a b m1 m2) (k : Frz b c m2 m3) : Frz a c m1 m3 :=
 ⟨h.le.trans k.le,k.w.trans h.w,k.D.trans h.D,k.β.trans h.β,k.ν.trans h.ν,k.σ.trans h.σ,fun i b hb=>h.blk i b (k.blk i b hb),
  fun b hb=>(k.G b hb).elim (h.G b) fun ⟨i,hi⟩=>.inr ⟨i,h.blk i b hi⟩,fun b hb=>(k.H b hb).elim (h.H b) fun ⟨i,hi⟩=>.inr ⟨i,h.blk i b hi⟩⟩
theorem ObjsOk.freezeRow (h : ObjsOk w0 G0 m os) (i : Nat) : ∃ m',Frz os (freezeRow os i) m m' ∧ ObjsOk w0 G0 m' (freezeRow os i):=by
 unfold Ev.freezeRow
 cases hf : find os i with
 | none=>exact ⟨m, .refl _ m,h⟩
 | some o =>
  cases o with
  | var vs=>exact ⟨m, .refl _ m,h⟩
  | frow t xs=>exact ⟨m, .refl _ m,h⟩
  | mix T t n src q lo zs ys=>exact ⟨m, .refl _ m,h⟩
  | map k v xs=>exact ⟨m, .refl _ m,h⟩
  | row T t q xs =>
   let m' : St:={ m with G:=fun b=>m.G b ∨ blk os m i b,H:=fun b=>m.H b ∨ blk os m i b }
   have hle : m.le m':=⟨fun b hb=>⟨.inl hb,rfl⟩,fun b hb=>⟨.inl hb,rfl⟩,fun _ h=>h,fun _ _=>rfl,fun _ _=>rfl,fun _ _=>rfl,fun _ _=>rfl⟩
   have hob:=(h.objs i _ hf).2
   have hlt : ∀ i o,find os i = some o → m.D i:=fun i o hf=>(h.objs i o hf).1
   have hold : ∀ j,j ≠ i → blk (upd os i (.frow (frz t xs).1 (frz t xs).2)) m' j = blk os m j:=fun j hj=>by
    unfold blk
    rw [y46q,if_neg (fun e=>hj e.symm)]
   have hnew : blk (upd os i (.frow (frz t xs).1 (frz t xs).2)) m' i = fun _=>False:=by
    unfold blk
    rw [y46q,if_pos rfl,hf]
    rfl
   have hall : ∀ j b,blk (upd os i (.frow (frz t xs).1 (frz t xs).2)) m' j b → blk os m j b ∧ j ≠ i:=fun j b hh=>by
    by_cases hj : j = i
    ·subst hj; rw [hnew] at hh; exact hh.elim
    ·rw [hold j hj] at hh; exact ⟨hh,hj⟩
   refine ⟨m',⟨hle,rfl,rfl,rfl,rfl,rfl,fun j b hh=>(hall j b hh).1,fun b hb=>hb.imp id fun hb=>⟨i,hb⟩,fun b hb=>hb.imp id fun hb=>⟨i,hb⟩⟩,h.base,fun j p hj=>?_,fun j k b h1 h2=>h.inj j k b (hall j b h1).1 (hall k b h2).1,fun j b h1=>?_,fun b hg=>?_,fun b hg=>?_,fun b hg=>?_,fun b hg=>hg.imp (h.gh b) id⟩
   ·rw [y46q] at hj
    by_cases e : i = j
    ·rw [if_pos e,hf] at hj
     obtain rfl:=Option.some.inj hj
     subst e
     refine ⟨hlt i _ hf, ?_⟩
     show Val m.w m'.G (.sl (frz t xs).1) (frz t xs).2 [m.ν i]
     exact frz_val hob.1 hob.2.1 (fun b hb=>.inl hb) fun b hb=>.inr (by unfold blk; rw [hf]; exact hb)
    ·rw [if_neg e] at hj
     exact ⟨hlt j p hj,Ob.le hle (hlt j p hj) (h.objs j p hj).2 os hj fun _ _=>rfl⟩
   ·obtain ⟨hj,hne⟩:=hall j b h1
    obtain ⟨a1,a2,a3,a4⟩:=h.out j b hj
    refine ⟨fun hg=>?_,fun hg=>?_,a3,a4⟩
    ·rcases hg with hg | hg
     ·exact a1 hg
     ·exact hne (h.inj j i b hj hg)
    ·rcases hg with hg | hg
     ·exact a2 hg
     ·exact hne (h.inj j i b hj hg)
   ·rcases hg with hg | hg
    ·exact h.liveG b hg
    ·exact (h.out i b hg).2.2.1
   ·rcases hg with hg | hg
    ·exact h.liveH b hg
    ·exact (h.out i b hg).2.2.1
   ·rcases hg with hg | hg
    ·exact h.subG b hg
    ·exact .inr (h.out i b hg).2.2.2
theorem ObjsOk.freezeAll : ∀ (l : List Nat) {os : List (Nat × Obj)} {m : St},ObjsOk w0 G0 m os → ∃ m',Frz os (freezeAll l os) m m' ∧ ObjsOk w0 G0 m' (freezeAll l os)
 | [],_,m,h=>⟨m, .refl _ m,h⟩
 | i :: r,_,m,h=>by
  obtain ⟨m1,f1,h1⟩:=h.freezeRow i
  obtain ⟨m2,f2,h2⟩:=ObjsOk.freezeAll r h1
  exact ⟨m2,f1.trans f2,h2⟩
theorem freezeRow_left {l l' : List (Nat × Obj)} (id : Nat) : (∀ i,find (freezeRow l id ++ l') i = find (l ++ l') i) ∨ ∀ i,find (freezeRow l id ++ l') i = find (freezeRow (l ++ l') id) i:=by
 unfold Ev.freezeRow
 cases hf : find l id with
 | none=>exact .inl fun _=>rfl
 | some o =>
  cases o with
  | var vs=>exact .inl fun _=>rfl
  | frow t xs=>exact .inl fun _=>rfl
  | mix T t n src q lo zs ys=>exact .inl fun _=>rfl
  | map k v xs=>exact .inl fun _=>rfl
  | row T t q xs =>
   right
   intro i
   rw [y29q l l',hf]
   exact upd_left (.frow (frz t xs).1 (frz t xs).2) hf i
theorem freezeRow_dom (l : List (Nat × Obj)) (id i : Nat) (o : Obj) (h : find (freezeRow l id) i = some o) : ∃ o',find l i = some o':=by
 unfold Ev.freezeRow at h
 cases hf : find l id with
 | none=>rw [hf] at h; exact ⟨_,h⟩
 | some p =>
  cases p with
  | var vs=>rw [hf] at h; exact ⟨_,h⟩
  | frow t xs=>rw [hf] at h; exact ⟨_,h⟩
  | mix T t n src q lo zs ys=>rw [hf] at h; exact ⟨_,h⟩
  | map k v xs=>rw [hf] at h; exact ⟨_,h⟩
  | row T t q xs =>
   rw [hf] at h
   simp only at h
   rw [y46q] at h
   by_cases hi : id = i
   ·subst hi; exact ⟨_,hf⟩
   ·rw [if_neg hi] at h; exact ⟨_,h⟩
theorem freezeAll_dom : ∀ (ids : List Nat) (l : List (Nat × Obj)) (i : Nat) (o : Obj),find (freezeAll ids l) i = some o → ∃ o',find l i = some o'
 | [],_,_,o,h=>⟨o,h⟩
 | j :: r,l,i,o,h=>by
  obtain ⟨o',h'⟩:=freezeAll_dom r _ i o h
  exact freezeRow_dom l j i o' h'
theorem Frz.congr {a b c : List (Nat × Obj)} {m m' : St} (h : Frz a b m m') (hf : ∀ i,find c i = find b i) : Frz a c m m' :=
 ⟨h.le,h.w,h.D,h.β,h.ν,h.σ,fun i p hp=>h.blk i p (by unfold Ev.blk at hp ⊢; rw [← hf]; exact hp),h.G,h.H⟩
theorem ObjsOk.freezeLeft : ∀ (ids : List Nat) {l : List (Nat × Obj)} {m : St},ObjsOk w0 G0 m (l ++ F) → ∃ m',Frz (l ++ F) (Ev.freezeAll ids l ++ F) m m' ∧ ObjsOk w0 G0 m' (Ev.freezeAll ids l ++ F)
 | [],_,m,h=>⟨m, .refl _ m,h⟩
 | i :: r,l,m,h=>by
  rcases freezeRow_left (l:=l) (l':=F) i with hc | hc
  ·obtain ⟨m2,f2,h2⟩:=ObjsOk.freezeLeft r (h.congr hc)
   exact ⟨m2,((Frz.refl (l ++ F) m).congr hc).trans f2,h2⟩
  ·obtain ⟨m1,f1,h1⟩:=h.freezeRow i
   obtain ⟨m2,f2,h2⟩:=ObjsOk.freezeLeft r (h1.congr hc)
   exact ⟨m2,(f1.congr hc).trans f2,h2⟩
theorem Rel.freezeX (h : Rel w0 G0 N F m e tm) (l : List Nat) : ∃ m',Frz (e.objs ++ F) (Ev.freezeAll l e.objs ++ F) m m' ∧ Rel w0 G0 N F m' (e.freeze l) tm:=by
 obtain ⟨m',hf,ho⟩:=h.ok.freezeLeft l
 exact ⟨m',hf,h.objs hf.le _ _ ho fun i o hf=>by
  obtain ⟨o',h'⟩:=freezeAll_dom l _ i o hf
  exact h.disj i o' h'⟩
theorem Rel.freeze (h : Rel w0 G0 N F m e tm) (l : List Nat) : ∃ m',m.le m' ∧ m'.w = m.w ∧ m'.D = m.D ∧ Rel w0 G0 N F m' (e.freeze l) tm:=by
 obtain ⟨m',hf,hR⟩:=h.freezeX l
 exact ⟨m',hf.le,hf.w,hf.D,hR⟩
structure Stp (m : St) (e : Env) (m' : St) (e' : Env) : Prop where
 le : m.le m'
 D : ∀ i,m'.D i → m.D i ∨ (e.next ≤ i ∧ i < e'.next)
 next : e.next ≤ e'.next
 most : e'.next ≤ e.next + nmW
 slots : e'.slots = e.slots
theorem Stp.same (hle : m.le m') (hD : m'.D = m.D) {e' : Env} (hn : e'.next = e.next) (hs : e'.slots = e.slots:=by rfl) : Stp m e m' e':=⟨hle,fun i hi=>.inl (by rw [← hD]; exact hi),by omega,by omega,hs⟩
theorem Stp.refl (m : St) (e : Env) : Stp m e m e:=.same (.refl m) rfl rfl
theorem Stp.new (hle : m.le m') (hD : ∀ i,m'.D i ↔ m.D i ∨ i = e.next) {e' : Env} (hn : e'.next = e.next + 1) (hs : e'.slots = e.slots:=by rfl) : Stp m e m' e':=⟨hle,fun i hi=>((hD i).1 hi).imp id fun h=>⟨by omega,by omega⟩,by omega,by rw [hn]; unfold nmW; omega,hs⟩
def Fr (m : St) (e : Env) : Prop:=∀ i,e.next ≤ i → i < e.next + nmW → ¬ m.D i
theorem Fr.one (h : Fr m e) : ¬ m.D e.next:=h e.next (Nat.le_refl _) (by unfold nmW; omega)
theorem Rel.push (h : Rel w0 G0 N F m e tm) (hfr : ¬ m.D e.next) (hle : m.le m') (o : Obj) (ho : ObjsOk w0 G0 m' ((e.next,o) :: (e.objs ++ F))) : Rel w0 G0 N F m' (e.new o) tm :=
 h.objs hle _ _ ho fun i p hf=>by
  rw [y14q] at hf
  by_cases hi : e.next = i
  ·subst hi
   cases hF : find F e.next with
   | none=>rfl
   | some q =>
    have:=h.ok.objs e.next q (by
     rw [y29q,hF]
     cases hE : find e.objs e.next with
     | none=>rfl
     | some z=>exact absurd (h.obj _ _ hE).1 hfr)
    exact absurd this.1 hfr
  ·rw [if_neg hi] at hf
   exact h.disj i p hf
end Go.Ev
end
section
namespace Go.Ev
def zz : List V → List Value → Bool
 | [],[]=>true
 | .i k n :: l, .int j n' :: m=>kEq k j && decide (n = n') && zz l m
 | .b x :: l, .bool y :: m=>(x == y) && zz l m
 | .s [] :: l, .string s :: m=>(match s.data.toList with
  | []=>true
  | _=>false) && zz l m
 | .nil :: l, .slice none n c :: m=>Nat.beq n 0 && Nat.beq c 0 && zz l m
 | .mp _ _ [] :: l, .map none :: m=>zz l m
 | _,_=>false
def zeroOk (t : Ty) : Option Value → Bool
 | some (.agg cs)=>t.isAgg && zz (zeros t []) cs.toList
 | some z=>!t.isAgg && zz (zeros t []) [z]
 | none=>false
def y56q (P : Program) : List Field → List Nat → List Nat → Bool
 | [],[],[]=>true
 | f :: fs,d :: ds,s :: ss=>Nat.beq f.offset d && (match P.info? f.type with
  | some j=>Nat.beq j.size s && !Nat.beq s 0
  | none=>false) && y56q P fs ds ss
 | _,_,_=>false
def mapOk (Γ : Tab) (K V : Nat) (k v : Ty) : Bool:=match find Γ K,find Γ V with
 | some tk,some tv=>tyEq tk.ty k && tyEq tv.ty v && k.flat && v.flat && (!k.isAgg || Nat.beq tk.elem 0)
 | _,_=>false
def y50q (P : Program) (Γ : Tab) (ti : TI) : TypeDesc → Bool
 | .int k=>match ti.ty with
  | .int j=>kEq k j
  | _=>false
 | .bool=>match ti.ty with
  | .bool=>true
  | _=>false
 | .string=>match ti.ty with
  | .str=>true
  | _=>false
 | .slice el=>match ti.ty with
  | .sl t=>Nat.beq el ti.elem && (match find Γ ti.elem with
   | some tj=>(match Ty.decEq tj.ty t with
    | .isTrue _=>true
    | .isFalse _=>false) && !Nat.beq t.size 0
   | none=>false)
  | .osl U t=>Nat.beq el ti.elem && Nat.beq U el && (match find Γ ti.elem with
   | some tj=>(match Ty.decEq tj.ty t with
    | .isTrue _=>true
    | .isFalse _=>false) && !Nat.beq t.size 0
   | none=>false)
  | _=>false
 | .struct fs=>ti.ty.isAgg && y56q P fs.toList ti.offs ti.sizes && Nat.beq ti.elem 0
 | .map K V=>match ti.ty with
  | .mp k v=>mapOk Γ K V k v
  | .omp k v=>mapOk Γ K V k v
  | _=>false
 | .array n el=>ti.ty.isAgg && Nat.beq el ti.elem && !Nat.beq ti.elem 0 && (match ti.offs with
  | []=>true
  | _=>false) && (match find Γ ti.elem with
  | some tj=>tyEq ti.ty (arrTy n tj.ty)
  | none=>false)
 | _=>false
def y35q (Γ : Tab) : List Field → Ty → Nat → Bool
 | [], .unit,_=>true
 | f :: fs, .pair a b,off=>Nat.beq f.offset off && (match find Γ f.type with
  | some tf=>tyEq tf.ty a
  | none=>false) && y35q Γ fs b (off + a.size)
 | _,_,_=>false
def tiDeep (P : Program) (Γ : Tab) (T : Nat) (ti : TI) : Bool:=match ti.ty.isAgg with
 | false=>match ti.ty with
  | .any=>false
  | .osl _ _=>false
  | .mp _ _=>false
  | .omp _ _=>false
  | _=>true
 | true=>match P.underlying T with
  | some (.struct fs)=>y35q Γ fs.toList ti.ty 0
  | _=>false
def Ty.dep : Ty → Nat
 | .pair a b=>max (a.dep + 1) b.dep
 | _=>0
def namesOk (Γ : Tab) : List Field → Bool
 | []=>true
 | f :: fs => (!(f.name == "_") && (match find Γ f.type with
  | some tf=>Nat.beq tf.elem 0 || !tf.ty.isAgg
  | none=>true)) && namesOk Γ fs
def eqOk (P : Program) (Γ : Tab) (T : Nat) (ti : TI) : Bool:=match ti.ty.isAgg && ti.ty.flat && Nat.beq ti.elem 0 with
 | false=>true
 | true=>match P.underlying T with
  | some (.struct fs)=>y35q Γ fs.toList ti.ty 0 && namesOk Γ fs.toList && !P.stoodInHeld T && !P.eqGuardType P.depth T && Nat.ble ti.ty.dep 1000
  | _=>false
def tiOk (P : Program) (Γ : Tab) (T : Nat) (ti : TI) : Bool:=match P.info? T,P.underlying T with
 | some i,some d=>Nat.beq i.size ti.ty.size && Nat.beq i.bytes ti.bytes && Nat.ble ti.bytes 1024 && zeroOk ti.ty i.zero && y50q P Γ ti d && eqOk P Γ T ti
 | _,_=>false
def tabOk (P : Program) (Γ : Tab) : List (Nat × TI) → Bool
 | []=>true
 | (T,ti) :: r=>tiOk P Γ T ti && tabOk P Γ r
def SlOf (u t : Ty) : Prop:=u = .sl t ∨ ∃ T,u = .osl T t
structure TyOk (P : Program) (Γ : Tab) (T : Nat) (ti : TI) : Prop where
 info : ∃ i z cs,P.info? T = some i ∧ i.size = ti.ty.size ∧ i.bytes = ti.bytes ∧ i.zero = some z ∧ z.cells = List.toArray cs ∧ AsVal ti.ty cs z ∧ ∀ m,R2 (Lv m) (zeros ti.ty []) cs
 small : ti.bytes ≤ 1024
 under : ∃ d,P.underlying T = some d ∧ d.isRow = ti.ty.isAgg ∧ (ti.ty.isAgg = true → (∃ fs,d = .struct fs ∧ y56q P fs.toList ti.offs ti.sizes = true ∧ ti.elem = 0) ∨ ∃ n tj,d = .array n ti.elem ∧ ti.elem ≠ 0 ∧ ti.offs = [] ∧ find Γ ti.elem = some tj ∧ ti.ty = arrTy n tj.ty)
 int : ∀ k,ti.ty = .int k → P.underlying T = some (.int k)
 str : ti.ty = .str → P.underlying T = some .string
 bool : ti.ty = .bool → P.underlying T = some .bool
 sl : ∀ t,SlOf ti.ty t → P.underlying T = some (.slice ti.elem) ∧ 0 < t.size ∧ ∃ tj,find Γ ti.elem = some tj ∧ tj.ty = t
 osl : ∀ U t,ti.ty = .osl U t → U = ti.elem
 eqq : ti.ty.isAgg = true → ti.ty.flat = true → ti.elem = 0 → ∃ fs,P.underlying T = some (.struct fs) ∧ y35q Γ fs.toList ti.ty 0 = true ∧ namesOk Γ fs.toList = true ∧ P.stoodInHeld T = false ∧ P.eqGuardType P.depth T = false ∧ ti.ty.dep ≤ 1000
 mp : ∀ k v,(ti.ty = .mp k v ∨ ti.ty = .omp k v) → ∃ K V tk tv,P.underlying T = some (.map K V) ∧ find Γ K = some tk ∧ tk.ty = k ∧ k.flat = true ∧ (tk.ty.isAgg = true → tk.elem = 0) ∧ find Γ V = some tv ∧ tv.ty = v ∧ v.flat = true
def TabOk (P : Program) (Γ : Tab) : Prop:=∀ T ti,find Γ T = some ti → TyOk P Γ T ti
theorem zz_rel (m : St) : ∀ (l : List V) (cs : List Value),zz l cs = true → R2 (Lv m) l cs
 | [],[],_=>trivial
 | [],_ :: _,h=>by simp [zz] at h
 | _ :: _,[],h=>by rename_i v _; cases v <;> simp [zz] at h <;> (rename_i x; cases x <;> simp [zz] at h)
 | .i k n :: l,c :: cs,h=>by
  cases c <;> simp [zz] at h
  obtain ⟨⟨h1,h2⟩,h3⟩:=h
  have:=kEq_eq h1
  subst this; subst h2
  exact ⟨rfl,zz_rel m l cs h3⟩
 | .b x :: l,c :: cs,h=>by
  cases c <;> simp [zz] at h
  obtain ⟨h1,h3⟩:=h
  subst h1
  exact ⟨rfl,zz_rel m l cs h3⟩
 | .s x :: l,c :: cs,h=>by
  cases x with
  | cons=>simp [zz] at h
  | nil =>
   cases c <;> simp only [zz,Bool.and_eq_true,Bool.false_eq_true] at h
   rename_i s
   obtain ⟨h1,h3⟩:=h
   refine ⟨⟨s,rfl, ?_⟩,zz_rel m l cs h3⟩
   cases hs : s.data.toList with
   | nil=>rfl
   | cons a b=>rw [hs] at h1; simp at h1
 | .nil :: l,c :: cs,h=>by
  cases c with
  | slice A n cp =>
   cases A with
   | some a=>simp [zz] at h
   | none =>
    simp only [zz,Bool.and_eq_true] at h
    obtain ⟨⟨h1,h2⟩,h3⟩:=h
    have e1:=Nat.eq_of_beq_eq_true h1
    have e2:=Nat.eq_of_beq_eq_true h2
    subst e1; subst e2
    exact ⟨rfl,zz_rel m l cs h3⟩
  | _=>simp [zz] at h
 | .mp k v xs :: l,c :: cs,h=>by
  cases xs with
  | cons a b=>cases c <;> simp [zz] at h
  | nil =>
   cases c with
   | map r =>
    cases r with
    | some r=>simp [zz] at h
    | none=>simp only [zz] at h; exact ⟨.inl ⟨rfl,rfl⟩,zz_rel m l cs h⟩
   | _=>simp [zz] at h
 | .sl _ _ :: _,_ :: _,h=>by simp [zz] at h
 | .row _ :: _,_ :: _,h=>by simp [zz] at h
 | .loc _ _ :: _,_ :: _,h=>by simp [zz] at h
 | .el _ _ _ :: _,_ :: _,h=>by simp [zz] at h
 | .rel _ _ _ _ :: _,_ :: _,h=>by simp [zz] at h
 | .clo _ _ :: _,_ :: _,h=>by simp [zz] at h
 | .ifc _ _ :: _,_ :: _,h=>by simp [zz] at h
 | .any :: _,_ :: _,h=>by simp [zz] at h
theorem zeroOk_rel {t : Ty} {z : Option Value} (h : zeroOk t z = true) : ∃ v cs,z = some v ∧ v.cells = List.toArray cs ∧ AsVal t cs v ∧ ∀ m,R2 (Lv m) (zeros t []) cs:=by
 cases z with
 | none=>simp [zeroOk] at h
 | some v =>
  by_cases ha : ∃ cs,v = .agg cs
  ·obtain ⟨cs,rfl⟩:=ha
   simp only [zeroOk,Bool.and_eq_true] at h
   exact ⟨_,cs.toList,rfl,by simp [Value.cells],by simp [AsVal,h.1],fun m=>zz_rel m _ _ h.2⟩
  ·have h' : (!t.isAgg && zz (zeros t []) [v]) = true:=by
    cases v <;> first | exact h | exact absurd ⟨_,rfl⟩ ha
   simp only [Bool.and_eq_true,Bool.not_eq_true'] at h'
   refine ⟨v,[v],rfl, ?_,by simp [AsVal,h'.1],fun m=>zz_rel m _ _ h'.2⟩
   cases v <;> first | rfl | exact absurd ⟨_,rfl⟩ ha
theorem tyEq_eq0 {a b : Ty} (h : tyEq a b = true) : a = b:=by
 unfold tyEq at h
 cases hd : Ty.decEq a b with
 | isTrue e=>exact e
 | isFalse e=>rw [hd] at h; simp at h
theorem tiOk_ok {P : Program} {Γ : Tab} {T : Nat} {ti : TI} (h : tiOk P Γ T ti = true) : TyOk P Γ T ti:=by
 unfold tiOk at h
 cases hi : P.info? T with
 | none=>simp [hi] at h
 | some i =>
  cases hd : P.underlying T with
  | none=>simp [hi,hd] at h
  | some d =>
   simp only [hi,hd,Bool.and_eq_true] at h
   obtain ⟨⟨⟨⟨⟨h1,h2⟩,h3⟩,h4⟩,h5⟩,h6⟩:=h
   obtain ⟨v,cs,hv,hc,ha,hr⟩:=zeroOk_rel h4
   have e1:=Nat.eq_of_beq_eq_true h1
   have e2:=Nat.eq_of_beq_eq_true h2
   have e3:=Nat.le_of_ble_eq_true h3
   refine ⟨⟨i,v,cs,hi,e1,e2,hv,hc,ha,hr⟩,e3,⟨d,hd, ?_, ?_⟩, ?_, ?_, ?_, ?_, ?_, ?_, ?_⟩
   ·cases d with
    | struct fs=>simp only [y50q,Bool.and_eq_true] at h5; simp [TypeDesc.isRow,h5.1.1]
    | array n el=>simp only [y50q,Bool.and_eq_true] at h5; simp [TypeDesc.isRow,h5.1.1.1.1]
    | int k=>cases ht : ti.ty <;> simp [y50q,ht] at h5 <;> rfl
    | bool=>cases ht : ti.ty <;> simp [y50q,ht] at h5 <;> rfl
    | string=>cases ht : ti.ty <;> simp [y50q,ht] at h5 <;> rfl
    | slice el=>cases ht : ti.ty <;> simp [y50q,ht] at h5 <;> rfl
    | map K V=>cases ht : ti.ty <;> simp [y50q,ht] at h5 <;> rfl
    | _=>simp [y50q] at h5
   ·intro hag
    cases d with
    | struct fs=>simp only [y50q,Bool.and_eq_true] at h5; exact .inl ⟨fs,rfl,h5.1.2,Nat.eq_of_beq_eq_true h5.2⟩
    | array n el =>
     simp only [y50q,Bool.and_eq_true,Bool.not_eq_true'] at h5
     obtain ⟨⟨⟨⟨g1,g2⟩,g3⟩,g4⟩,g5⟩:=h5
     have g2:=Nat.eq_of_beq_eq_true g2
     subst g2
     right
     cases hf : find Γ ti.elem with
     | none=>rw [hf] at g5; simp at g5
     | some tj =>
      rw [hf] at g5
      refine ⟨n,tj,rfl,fun h0=>?_, ?_,rfl,tyEq_eq0 g5⟩
      ·rw [h0] at g3; simp at g3
      ·cases ho : ti.offs with
       | nil=>rfl
       | cons=>rw [ho] at g4; simp at g4
    | int k=>cases ht : ti.ty <;> simp [y50q,ht,Ty.isAgg] at h5 hag
    | bool=>cases ht : ti.ty <;> simp [y50q,ht,Ty.isAgg] at h5 hag
    | string=>cases ht : ti.ty <;> simp [y50q,ht,Ty.isAgg] at h5 hag
    | slice el=>cases ht : ti.ty <;> simp [y50q,ht,Ty.isAgg] at h5 hag
    | map K V=>cases ht : ti.ty <;> simp [y50q,ht,Ty.isAgg] at h5 hag
    | _=>simp [y50q] at h5
   ·intro k hk
    cases d <;> simp [y50q,hk,Ty.isAgg] at h5
    rw [hd,kEq_eq h5]
   ·intro hk
    cases d <;> simp [y50q,hk,Ty.isAgg] at h5
    exact hd
   ·intro hk
    cases d <;> simp [y50q,hk,Ty.isAgg] at h5
    exact hd
   ·intro t ht
    have key : ∀ el,d = .slice el → el = ti.elem → ((match find Γ ti.elem with
      | some tj=>(match Ty.decEq tj.ty t with
       | .isTrue _=>true
       | .isFalse _=>false) && !Nat.beq t.size 0
      | none=>false) = true) → P.underlying T = some (.slice ti.elem) ∧ 0 < t.size ∧ ∃ tj,find Γ ti.elem = some tj ∧ tj.ty = t:=by
     intro el hde h6 h7
     subst hde
     cases hf : find Γ ti.elem with
     | none=>simp [hf] at h7
     | some tj =>
      simp only [hf] at h7
      cases hq : Ty.decEq tj.ty t with
      | isFalse _=>simp [hq] at h7
      | isTrue e =>
       simp only [hq] at h7
       refine ⟨by rw [hd,h6], ?_,tj,rfl,e⟩
       by_cases h0 : t.size = 0
       ·rw [h0] at h7; simp at h7
       ·omega
    rcases ht with ht | ⟨U,ht⟩
    ·cases d <;> simp only [y50q,ht,Ty.isAgg,Bool.and_eq_true,Bool.false_eq_true,false_and] at h5
     exact key _ rfl (Nat.eq_of_beq_eq_true h5.1) h5.2
    ·cases d <;> simp only [y50q,ht,Ty.isAgg,Bool.and_eq_true,Bool.false_eq_true,false_and] at h5
     exact key _ rfl (Nat.eq_of_beq_eq_true h5.1.1) h5.2
   ·intro U t ht
    cases d <;> simp only [y50q,ht,Ty.isAgg,Bool.and_eq_true,Bool.false_eq_true,false_and] at h5
    rw [Nat.eq_of_beq_eq_true h5.1.2,Nat.eq_of_beq_eq_true h5.1.1]
   ·intro ha hf h0
    unfold eqOk at h6
    rw [ha,hf,h0,hd] at h6
    cases d with
    | struct fs =>
     have hb0 : Nat.beq 0 0 = true:=rfl
     simp only [hb0,Bool.and_self,Bool.and_true,Bool.and_eq_true,Bool.not_eq_true'] at h6
     obtain ⟨⟨⟨⟨g1,g2⟩,g3⟩,g4⟩,g5⟩:=h6
     exact ⟨fs,hd,g1,g2,g3,g4,Nat.le_of_ble_eq_true g5⟩
    | _=>simp at h6
   ·intro k v hk
    cases d with
    | map K V =>
     have h7 : mapOk Γ K V k v = true:=by rcases hk with hk | hk <;> simpa [y50q,hk] using h5
     unfold mapOk at h7
     cases hK : find Γ K with
     | none=>simp [hK] at h7
     | some tk =>
      cases hV : find Γ V with
      | none=>simp [hK,hV] at h7
      | some tv =>
       simp only [hK,hV,Bool.and_eq_true,Bool.or_eq_true,Bool.not_eq_true'] at h7
       obtain ⟨⟨⟨⟨g1,g2⟩,g3⟩,g4⟩,g5⟩:=h7
       have e1:=tyEq_eq0 g1
       have e2:=tyEq_eq0 g2
       refine ⟨K,V,tk,tv,hd,hK,e1,g3,fun ha=>?_,hV,e2,g4⟩
       rw [e1] at ha
       rcases g5 with g5 | g5
       ·rw [ha] at g5; cases g5
       ·exact Nat.eq_of_beq_eq_true g5
    | _=>rcases hk with hk | hk <;> simp [y50q,hk,Ty.isAgg] at h5
theorem tabOk_ok {P : Program} {Γ : Tab} : ∀ {l : List (Nat × TI)},tabOk P Γ l = true → ∀ T ti,find l T = some ti → TyOk P Γ T ti
 | [],_,T,ti,h=>by simp [find] at h
 | (U,tu) :: r,h,T,ti,hf=>by
  simp only [tabOk,Bool.and_eq_true] at h
  rw [y14q] at hf
  by_cases e : U = T
  ·rw [if_pos e] at hf
   obtain rfl:=Option.some.inj hf
   subst e
   exact tiOk_ok h.1
  ·rw [if_neg e] at hf
   exact tabOk_ok h.2 T ti hf
theorem fieldsOk_get {P : Program} : ∀ {fs : List Field} {ds ss : List Nat},y56q P fs ds ss = true → ∀ i d,nth ds i = some d → ∃ f j,fs[i]? = some f ∧ f.offset = d ∧ P.info? f.type = some j ∧ nth ss i = some j.size ∧ j.size ≠ 0
 | [],[],[],_,i,d,h=>by cases i <;> simp [nth] at h
 | f :: fs,e :: ds,s :: ss,h,0,d,hd=>by
  simp only [y56q,Bool.and_eq_true] at h
  obtain ⟨⟨h1,h2⟩,h3⟩:=h
  simp only [nth,Option.some.injEq] at hd
  subst hd
  cases hj : P.info? f.type with
  | none=>simp [hj] at h2
  | some j =>
   simp only [hj,Bool.and_eq_true,Bool.not_eq_true'] at h2
   have e2:=Nat.eq_of_beq_eq_true h2.1
   refine ⟨f,j,by simp,Nat.eq_of_beq_eq_true h1,hj,by simp [nth,e2], ?_⟩
   intro h0
   have h22:=h2.2
   rw [← e2,h0] at h22
   simp at h22
 | f :: fs,e :: ds,s :: ss,h,i + 1,d,hd=>by
  simp only [y56q,Bool.and_eq_true] at h
  obtain ⟨g,j,h1,h2,h3,h4,h5⟩:=fieldsOk_get h.2 i d (by simpa [nth] using hd)
  exact ⟨g,j,by simpa using h1,h2,h3,by simpa [nth] using h4,h5⟩
 | [],_ :: _,_,h,_,_,_=>by simp [y56q] at h
 | [],[],_ :: _,h,_,_,_=>by simp [y56q] at h
 | _ :: _,[],_,h,_,_,_=>by simp [y56q] at h
 | _ :: _,_ :: _,[],h,_,_,_=>by simp [y56q] at h
end Go.Ev
end
section
namespace Go.Ev
section
variable {P : Program} {Γ : Tab} {w : World} {G : Nat → Prop}
theorem tyEq_eq' {a b : Ty} (h : tyEq a b = true) : a = b:=by
 unfold tyEq at h
 cases hd : Ty.decEq a b with
 | isTrue e=>exact e
 | isFalse e=>rw [hd] at h; simp at h
theorem run_isAgg (hΓ : TabOk P Γ) {T : Nat} {ti : TI} (hf : find Γ T = some ti) (w : World) : (isAgg T).run P w = .ok ti.ty.isAgg w:=by
 obtain ⟨d,hu,hr,hs⟩:=(hΓ T ti hf).under
 unfold isAgg
 simp only [Sem.run_bind,run_underlying hu,Result.andThen_ok]
 rw [← hr]
 cases hd : ti.ty.isAgg with
 | true =>
  rcases hs hd with ⟨fs,rfl,_⟩ | ⟨n,tj,rfl,_⟩ <;> simp [TypeDesc.isRow]
 | false =>
  rw [hd] at hr
  cases d <;> simp [TypeDesc.isRow] at hr ⊢
theorem part_run (hΓ : TabOk P Γ) {T : Nat} {ti : TI} (hf : find Γ T = some ti) (xs : Array Value) (off : Nat) {c1 c2 : List Value} (h : xs.toList.drop off = c1 ++ c2) (hl : c1.length = ti.ty.size) (w : World) :
  ∃ v,(part T xs off).run P w = .ok v w ∧ AsVal ti.ty c1 v:=by
 obtain ⟨i,z,cs,hi,hs,_⟩:=(hΓ T ti hf).info
 have hsz : P.cellsOf T = ti.ty.size:=by simp [Program.cellsOf,hi,hs]
 unfold part AsVal
 simp only [Sem.run_bind,run_isAgg hΓ hf,Result.andThen_ok]
 cases ha : ti.ty.isAgg with
 | true =>
  simp only [if_true,Sem.run_bind,run_sizeOf w hi,Result.andThen_ok,Sem.run_pure]
  refine ⟨_,rfl, ?_⟩
  congr 1
  apply Array.toList_inj.1
  rw [Array.toList_extract]
  simp [List.extract,h,hsz,← hl]
 | false =>
  have h1 : c1.length = 1:=by rw [hl]; cases ht : ti.ty <;> simp [ht,Ty.isAgg] at ha <;> rfl
  match c1,h1 with
  | [a],_ =>
   have : xs[off]? = some a:=by
    have h0:=congrArg (fun l=>l[0]?) h
    simpa using h0
   exact ⟨a,by simp [this],rfl⟩
theorem eqIn_run (hΓ : TabOk P Γ) : ∀ (n : Nat) (T : Nat) (ti : TI) (t : Ty) (ht : ti.ty = t) (x y : t.den) (cs ds : List Value) (u v : Value) (w' : World),find Γ T = some ti → (ti.ty.isAgg = true → ti.elem = 0) → t.flat = true → t.dep ≤ n →
  Val w G t x cs → AsVal t cs u → Val w G t y ds → AsVal t ds v → (Op.equalIn (n + 1) T u v).run P w' = .ok (eqT t x y) w'
 | n,T,ti,t,ht,x,y,cs,ds,u,v,w',hf,h00,hfl,hn,hx,hu,hy,hv=>by
  have hT:=hΓ T ti hf
  cases ha : t.isAgg with
  | true =>
   subst ht
   obtain ⟨fs,hus,hft,hnm,hst,_,_⟩:=hT.eqq ha hfl (h00 ha)
   simp only [AsVal,ha] at hu hv
   subst hu; subst hv
   have hfs : P.fieldsOf T = fs:=by simp [Program.fieldsOf,hus]
   rw [run_equalIn_struct w' n T _ _ (by rw [hfs]; exact hus) hst,hfs]
   have key : ∀ (fl : List Field) (t : Ty) (off : Nat) (x y : t.den),y35q Γ fl t off = true → namesOk Γ fl = true → t.flat = true → t.dep ≤ n → t.isAgg = true → Val w G t x (cs.drop off) → Val w G t y (ds.drop off) → ∀ w',(Op.eqFields n cs.toArray ds.toArray fl).run P w' = .ok (eqT t x y) w':=by
    intro fl
    induction fl with
    | nil =>
     intro t off x y hft _ _ _ _ _ _ w'
     cases t <;> simp [y35q] at hft
     simp [Op.eqFields,eqT]
    | cons f fl ih =>
     intro t off x y hft hnm hfl hdep hag hx hy w'
     obtain ⟨a,t2,rfl⟩ : ∃ a t2,t = .pair a t2:=by
      cases t <;> first | (simp [y35q] at hft; done) | exact ⟨_,_,rfl⟩
     simp only [y35q,Bool.and_eq_true] at hft
     obtain ⟨⟨h1,h2⟩,h3⟩:=hft
     have h1:=Nat.eq_of_beq_eq_true h1
     simp only [namesOk,Bool.and_eq_true,Bool.not_eq_true',beq_eq_false_iff_ne] at hnm
     cases hff : find Γ f.type with
     | none=>simp [hff] at h2
     | some tf =>
      simp only [hff] at h2
      have hta:=tyEq_eq' h2
      subst hta
      simp only [Ty.flat,Bool.and_eq_true] at hfl
      simp only [Ty.dep] at hdep
      obtain ⟨c1,c2,e1,v1,v2⟩:=hx
      obtain ⟨d1,d2,e2,u1,u2⟩:=hy
      have l1:=v1.length
      have l2:=u1.length
      obtain ⟨p,hp,ap⟩:=part_run hΓ hff cs.toArray off (by simpa using e1) l1 w'
      obtain ⟨q,hq,aq⟩:=part_run hΓ hff ds.toArray off (by simpa using e2) l2 w'
      obtain ⟨k,rfl⟩ : ∃ k,n = k + 1:=⟨n - 1,by omega⟩
      have he:=eqIn_run hΓ k f.type tf tf.ty rfl x.1 y.1 c1 d1 p q w' hff (fun hag=>by have:=hnm.1.2; rw [hff] at this; simpa [hag] using this) hfl.1 (by omega) v1 ap u1 aq
      have hb : t2.isAgg = true:=by
       cases fl with
       | nil=>cases t2 <;> simp [y35q] at h3 <;> rfl
       | cons g gl=>cases t2 <;> simp [y35q] at h3 <;> rfl
      have hr:=ih t2 (off + tf.ty.size) x.2 y.2 h3 hnm.2 hfl.2 (by omega) hb (by rw [← List.drop_drop,e1,← l1,List.drop_left]; exact v2) (by rw [← List.drop_drop,e2,← l2,List.drop_left]; exact u2) w'
      rw [← h1] at hp hq
      have hne : f.name ≠ "_" := hnm.1.1
      simp only [Op.eqFields,hne,ne_eq,not_false_eq_true,if_true,Sem.run_bind,hp,hq,he,Result.andThen_ok]
      have e3 : eqT (.pair tf.ty t2) x y = (eqT tf.ty x.1 y.1 && eqT t2 x.2 y.2):=rfl
      rw [e3]
      cases eqT tf.ty x.1 y.1 with
      | false=>simp
      | true=>simpa using hr
   exact key fs.toList ti.ty 0 x y hft hnm hfl hn ha (by simpa using hx) (by simpa using hy) w'
  | false =>
   simp only [AsVal,ha] at hu hv
   subst hu; subst hv
   cases t with
   | int k =>
    simp only [Val,List.cons.injEq,and_true] at hx hy
    subst hx; subst hy
    exact run_equalIn_int w' n T k k _ _ (hT.int k ht)
   | bool =>
    simp only [Val,List.cons.injEq,and_true] at hx hy
    subst hx; subst hy
    exact run_equalIn_bool w' n T _ _ (hT.bool ht)
   | str =>
    obtain ⟨p,e1,rfl⟩:=hx
    obtain ⟨q,e2,rfl⟩:=hy
    simp only [List.cons.injEq,and_true] at e1 e2
    subst e1; subst e2
    rw [run_equalIn_string w' n T _ _ (hT.str ht),ByteArray.toList_eq,ByteArray.toList_eq]
    rfl
   | sl t=>simp [Ty.flat] at hfl
   | osl U t=>simp [Ty.flat] at hfl
   | any=>simp [Ty.flat] at hfl
   | mp k v=>simp [Ty.flat] at hfl
   | omp k v=>simp [Ty.flat] at hfl
   | pair a b=>simp [Ty.isAgg] at ha
   | unit=>simp [Ty.isAgg] at ha
theorem evEq_run (hΓ : TabOk P Γ) {T : Nat} {ti : TI} (hf : find Γ T = some ti) (h0 : ti.elem = 0) (ha : ti.ty.isAgg = true) (hfl : ti.ty.flat = true) {x y : ti.ty.den} {cs ds : List Value} (hx : Val w G ti.ty x cs) (hy : Val w G ti.ty y ds) (o1 o2 : Operand) (w' : World) (op : BinOp) :
  (op = .eql → (do eqGuard op T o1 o2 (.agg cs.toArray) (.agg ds.toArray); binOp op T (.agg cs.toArray) (.agg ds.toArray) : Sem Value).run P w' = .ok (.bool (eqT ti.ty x y)) w') ∧
  (op = .neq → (do eqGuard op T o1 o2 (.agg cs.toArray) (.agg ds.toArray); binOp op T (.agg cs.toArray) (.agg ds.toArray) : Sem Value).run P w' = .ok (.bool (!eqT ti.ty x y)) w'):=by
 obtain ⟨fs,_,_,_,_,hg,hd⟩:=(hΓ T ti hf).eqq ha hfl h0
 have he : (Op.equal T (.agg cs.toArray) (.agg ds.toArray)).run P w' = .ok (eqT ti.ty x y) w':=eqIn_run hΓ 9999 T ti ti.ty rfl x y cs ds _ _ w' hf (fun _=>h0) hfl (by omega) hx (by simp [AsVal,ha]) hy (by simp [AsVal,ha])
 constructor <;> intro h <;> subst h
 ·simp [eqGuard,binOp,run_program,he,hg]
 ·simp [eqGuard,binOp,run_program,he,hg]
end
end Go.Ev
end
section
namespace Go.Ev
open Go.RowKit (Below)
section
variable {P : Program} {w0 : Base} {G0 : Nat → Prop} {N : Nat} {F : List (Nat × Obj)} {m : St} {e : Env} {a : Act} {Γ : Tab}
theorem y24q {o : Oper} {w w' : World} {v : Value} {next : Act → World → Prop} {Q : Exit → Act → World → Prop}
  (h : (execOp a.eval o).run P w = .ok (.value v) w') (hn : next (a.put o.dst v) w') : o.wp P a w next Q:=by
 unfold Oper.wp; rw [h]; exact hn
theorem wp_skip' {o : Oper} {w w' : World} {next : Act → World → Prop} {Q : Exit → Act → World → Prop}
  (h : (execOp a.eval o).run P w = .ok .skip w') (hn : next (a.put o.dst undef) w') : o.wp P a w next Q:=by
 unfold Oper.wp; rw [h]; exact hn
theorem constV_lv : ∀ {v : Value} {x : V},constV v = some x → Lv m x v:=by
 intro v x h
 cases v with
 | slice A n c =>
  cases A with
  | some A=>simp [constV] at h
  | none =>
   cases n with
   | succ n=>simp [constV] at h
   | zero =>
    cases c with
    | succ c=>simp [constV] at h
    | zero=>simp only [constV,Option.some.injEq] at h; subst h; rfl
 | int k n=>simp only [constV,Option.some.injEq] at h; subst h; rfl
 | bool b=>simp only [constV,Option.some.injEq] at h; subst h; rfl
 | string s=>simp only [constV,Option.some.injEq] at h; subst h; exact ⟨s,rfl,rfl⟩
 | _=>simp [constV] at h
theorem constVs_lv : ∀ {l : List Value} {x : List V},constVs l = some x → R2 (Lv m) x l
 | [],x,h=>by simp only [constVs,Option.some.injEq] at h; subst h; trivial
 | v :: r,x,h=>by
  simp only [constVs] at h
  cases h1 : constV v with
  | none=>simp [h1] at h
  | some y =>
   cases h2 : constVs r with
   | none=>simp [h1,h2] at h
   | some l =>
    simp only [h1,h2,Option.some.injEq] at h
    subst h
    exact ⟨constV_lv h1,constVs_lv h2⟩
theorem constSV_sv {v : Value} {s : SV} (h : constSV v = some s) : Sv m s v:=by
 by_cases ha : ∃ cs,v = .agg cs
 ·obtain ⟨cs,rfl⟩:=ha
  simp only [constSV] at h
  cases h1 : constVs cs.toList with
  | none=>simp [h1] at h
  | some l =>
   simp only [h1,Option.some.injEq] at h
   subst h
   exact ⟨cs.toList,by simp,constVs_lv h1⟩
 ·have h' : (match constV v with
   | some x=>some (SV.one x)
   | none=>none) = some s:=by
   cases v <;> first | exact h | exact absurd ⟨_,rfl⟩ ha
  cases h1 : constV v with
  | none=>simp [h1] at h'
  | some x =>
   simp only [h1,Option.some.injEq] at h'
   subst h'
   exact constV_lv h1
theorem y145q (hR : Rel w0 G0 N F m e a.tmps) {o : Operand} {s : SV} (h : e.val o = some s) : Sv m s (a.eval o):=by
 cases o with
 | tmp t =>
  obtain ⟨v,hv,hs⟩:=hR.slots t s h
  have : a.eval (.tmp t) = v:=by simp [Act.eval,Array.getD_eq_getD_getElem?,hv]
  rw [this]; exact hs
 | const v=>exact constSV_sv h
 | func f =>
  simp only [Env.val,Option.some.injEq] at h
  subst h
  exact ⟨[],rfl,trivial⟩
 | global g=>simp [Env.val] at h
theorem y105q (hR : Rel w0 G0 N F m e a.tmps) {o : Operand} {x : V} (h : e.one o = some x) : Lv m x (a.eval o):=by
 unfold Env.one at h
 cases hv : e.val o with
 | none=>simp [hv] at h
 | some s =>
  have:=y145q hR hv
  cases s with
  | one y=>simp only [hv,Option.some.injEq] at h; subst h; exact this
  | agg l=>simp [hv] at h
  | tup l=>simp [hv] at h
theorem chk_some {ρ : Type} {b : Bool} {x : Option ρ} {r : ρ} (h : chk b x = some r) : b = true ∧ x = some r:=by
 cases b with
 | true=>exact ⟨rfl,h⟩
 | false=>simp [chk,br] at h
theorem y25q {ρ : Type} {p : Prop} [Decidable p] {x : Option ρ} {r : ρ} (h : chk (decide p) x = some r) : p ∧ x = some r:=by
 obtain ⟨h1,h2⟩:=chk_some h
 exact ⟨of_decide_eq_true h1,h2⟩
theorem y64q {a b : Ty} (h : tyEq a b = true) : a = b:=by
 unfold tyEq at h
 cases hd : Ty.decEq a b with
 | isTrue e=>exact e
 | isFalse e=>rw [hd] at h; simp at h
theorem toList_eq (s : ByteArray) : s.toList = s.data.toList:=ByteArray.toList_eq s
theorem evInt_sound {ρ : Type} {op : BinOp} {k : IntKind} {x y : Int} {K : SV → Option ρ} {r : ρ} (h : evInt op k x y K = some r) (t : TypeId) (w : World) :
  ∃ sv v,(binOp op t (.int k x) (.int k y)).run P w = .ok v w ∧ Sv m sv v ∧ K sv = some r:=by
 have kk : ∀ {z : Int},Sv m (.one (.i k z)) (.int k z):=fun {z}=>rfl
 have bb : ∀ {z : Bool},Sv m (.one (.b z)) (.bool z):=fun {z}=>rfl
 cases op <;> simp only [evInt] at h
 ·refine ⟨_,_, ?_,kk,h⟩; simp [binOp_add,Op.intArith]
 ·refine ⟨_,_, ?_,kk,h⟩; simp [binOp_sub,Op.intArith]
 ·refine ⟨_,_, ?_,kk,h⟩; simp [binOp_mul,Op.intArith]
 ·obtain ⟨h1,h2⟩:=chk_some h
  have hy : ¬ y = 0:=by simpa using h1
  refine ⟨_,_, ?_,kk,h2⟩; simp [binOp_quo,Op.intDiv,hy]
 ·obtain ⟨h1,h2⟩:=chk_some h
  have hy : ¬ y = 0:=by simpa using h1
  refine ⟨_,_, ?_,kk,h2⟩; simp [binOp_rem,Op.intDiv,hy]
 ·refine ⟨_,_, ?_,kk,h⟩; simp [binOp_and,intBits_and]
 ·refine ⟨_,_, ?_,kk,h⟩; simp [binOp_or,intBits_or]
 ·refine ⟨_,_, ?_,kk,h⟩; simp [binOp_xor,intBits_xor]
 ·simp at h
 ·simp at h
 ·refine ⟨_,_, ?_,kk,h⟩; simp [binOp_andNot,intBits_andNot]
 ·refine ⟨_,_, ?_,bb,h⟩; simp [binOp_eql]
 ·refine ⟨_,_, ?_,bb,h⟩; simp [binOp_neq]
 ·refine ⟨_,_, ?_,bb,h⟩; simp [binOp_lss]
 ·refine ⟨_,_, ?_,bb,h⟩; simp [binOp_leq]
 ·refine ⟨_,_, ?_,bb,h⟩; simp [binOp_gtr]
 ·refine ⟨_,_, ?_,bb,h⟩; simp [binOp_geq]
theorem ba_size (s : ByteArray) : s.size = s.data.toList.length:=by
 rw [Array.length_toList]; rfl
theorem ba_append (s t : ByteArray) : (s ++ t).data.toList = s.data.toList ++ t.data.toList:=by
 rw [ByteArray.data_append,Array.toList_append]
theorem evStr_sound {ρ : Type} {op : BinOp} {s t : ByteArray} {K : SV → Option ρ} {r : ρ} (h : evStr op s.data.toList t.data.toList K = some r) (T : TypeId) (w : World) :
  ∃ sv v,(binOp op T (.string s) (.string t)).run P w = .ok v w ∧ Sv m sv v ∧ K sv = some r:=by
 have bb : ∀ {z : Bool},Sv m (.one (.b z)) (.bool z):=fun {z}=>rfl
 cases op <;> simp only [evStr] at h
 ·obtain ⟨h1,h2⟩:=y25q h
  refine ⟨.one (.s (s.data.toList ++ t.data.toList)), .string (s ++ t), ?_,⟨s ++ t,rfl,ba_append s t⟩,h2⟩
  have hs : ¬ (((s.size + t.size : Nat) : Int) > IntKind.i64.max):=by
   rw [ba_size,ba_size,IntKind.max_i64]
   simp only [capN] at h1
   omega
  simp only [binOp,Op.stringOp]
  rw [if_neg hs]
  rfl
 ·simp at h
 ·simp at h
 ·simp at h
 ·simp at h
 ·simp at h
 ·simp at h
 ·simp at h
 ·simp at h
 ·simp at h
 ·simp at h
 ·refine ⟨_,_, ?_,bb,h⟩; simp [binOp,Op.stringOp,toList_eq]
 ·refine ⟨_,_, ?_,bb,h⟩; simp [binOp,Op.stringOp,toList_eq]
 ·refine ⟨_,_, ?_,bb,h⟩; simp [binOp,Op.stringOp,toList_eq]
 ·refine ⟨_,_, ?_,bb,h⟩; simp [binOp,Op.stringOp,toList_eq]
 ·refine ⟨_,_, ?_,bb,h⟩; simp [binOp,Op.stringOp,toList_eq]
 ·refine ⟨_,_, ?_,bb,h⟩; simp [binOp,Op.stringOp,toList_eq]
theorem shl_run (k j : IntKind) (x y : Int) (h : 0 ≤ y) (t : TypeId) (w : World) : (binOp .shl t (.int k x) (.int j y)).run P w = .ok (.int k (k.wrap (x * 2 ^ (min y.toNat k.bits)))) w:=by
 have : ¬ y < 0:=by omega
 simp [binOp,Op.shift,this]
theorem shr_run (k j : IntKind) (x y : Int) (h : 0 ≤ y) (t : TypeId) (w : World) : (binOp .shr t (.int k x) (.int j y)).run P w = .ok (.int k (x.fdiv (2 ^ (min y.toNat k.bits)))) w:=by
 have : ¬ y < 0:=by omega
 simp [binOp,Op.shift,this]
theorem evBin_sound {ρ : Type} (hΓ : TabOk P Γ) {T : Nat} {ti : TI} (hf : find Γ T = some ti) (h00 : (ti.ty.isAgg && !Nat.beq ti.elem 0) = false) {op : BinOp} {x y : SV} {u v : Value} {K : SV → Option ρ} {r : ρ} (h : evBin ti.ty op x y K = some r) (hx : Sv m x u) (hy : Sv m y v) (o1 o2 : Operand) (w : World) :
  ∃ sv z,(do eqGuard op T o1 o2 u v; binOp op T u v : Sem Value).run P w = .ok z w ∧ Sv m sv z ∧ K sv = some r:=by
 have hT : ti.ty = .bool → P.underlying T = some .bool:=fun ht=>(hΓ T ti hf).bool ht
 cases x with
 | tup l=>simp [evBin] at h
 | agg l =>
  cases y with
  | tup l'=>simp [evBin] at h
  | one y=>simp [evBin] at h
  | agg l' =>
   obtain ⟨cs,e1,r1⟩:=hx
   obtain ⟨ds,e2,r2⟩:=hy
   subst e1; subst e2
   simp only [evBin] at h
   cases hc : (ti.ty.isAgg && ti.ty.flat) with
   | false=>rw [hc] at h; simp at h
   | true =>
    rw [hc] at h
    obtain ⟨ha,hfl⟩:=Bool.and_eq_true_iff.1 hc
    have h01 : ti.elem = 0:=by
     rw [ha] at h00
     simpa using h00
    have no : ∀ {i o},find ([] : List (Nat × Obj)) i = some o → False:=fun h=>by simp [find] at h
    have bb : ∀ {z : Bool},Sv m (.one (.b z)) (.bool z):=fun {z}=>rfl
    cases hd1 : y74q false [] ti.ty l with
    | none=>cases op <;> simp [hd1] at h
    | some a =>
     cases hd2 : y74q false [] ti.ty l' with
     | none=>cases op <;> simp [hd1,hd2] at h
     | some b =>
      have v1:=y31q (m:=m) (os:=[]) (st:=false) (Gd:=m.G) (fun i o h=>(no h).elim) (fun b hb=>hb) (fun _ i o b h=>(no h).elim) hd1 r1
      have v2:=y31q (m:=m) (os:=[]) (st:=false) (Gd:=m.G) (fun i o h=>(no h).elim) (fun b hb=>hb) (fun _ i o b h=>(no h).elim) hd2 r2
      have key:=evEq_run hΓ hf h01 ha hfl v1 v2 o1 o2 w op
      cases op <;> simp only [hd1,hd2] at h <;> first
       | (simp at h; done)
       | exact ⟨_,_,key.1 rfl,bb,h⟩
       | exact ⟨_,_,key.2 rfl,bb,h⟩
 | one x =>
  cases y with
  | tup l=>cases x <;> simp [evBin] at h
  | agg l=>cases x <;> simp [evBin] at h
  | one y =>
   cases x with
   | i k n =>
    cases y with
    | i j n' =>
     simp only [Sv,Lv] at hx hy
     subst hx; subst hy
     simp only [eqGuard_at_int,pure_bind]
     have kk : ∀ {z : Int},Sv m (.one (.i k z)) (.int k z):=fun {z}=>rfl
     by_cases h1 : op = .shl
     ·subst h1
      simp only [evBin] at h
      obtain ⟨h1,h2⟩:=y25q h
      exact ⟨_,_,shl_run k j n n' h1 T w,kk,h2⟩
     ·by_cases h2 : op = .shr
      ·subst h2
       simp only [evBin] at h
       obtain ⟨h1,h2⟩:=y25q h
       exact ⟨_,_,shr_run k j n n' h1 T w,kk,h2⟩
      ·have h' : (match kEq k j with
        | true=>evInt op k n n' K
        | false=>none) = some r:=by
        cases op <;> first | exact h | exact absurd rfl h1 | exact absurd rfl h2
       cases hk : kEq k j with
       | false=>simp [hk] at h'
       | true =>
        simp only [hk] at h'
        have:=kEq_eq hk
        subst this
        exact evInt_sound h' T w
    | _=>simp [evBin] at h
   | b n =>
    cases y with
    | b n' =>
     simp only [Sv,Lv] at hx hy
     subst hx; subst hy
     simp only [eqGuard_at_bool,pure_bind]
     have bb : ∀ {z : Bool},Sv m (.one (.b z)) (.bool z):=fun {z}=>rfl
     cases hty : ti.ty <;> rw [hty] at h <;> simp only [evBin] at h <;> try (simp at h; done)
     have hu:=run_equal_bool (P:=P) w T n n' (hT hty)
     cases op <;> simp only at h <;> first
      | (simp at h; done)
      | (refine ⟨_,_, ?_,bb,h⟩; simp only [binOp,Sem.run_bind,hu]; rfl)
    | _=>simp [evBin] at h
   | s n =>
    cases y with
    | s n' =>
     obtain ⟨a,ha,hl⟩:=hx
     obtain ⟨b,hb,hl'⟩:=hy
     subst ha; subst hb; subst hl; subst hl'
     simp only [eqGuard_at_string,pure_bind]
     simp only [evBin] at h
     exact evStr_sound h T w
    | _=>simp [evBin] at h
   | _=>cases y <;> simp [evBin] at h
theorem evUn_sound {ρ : Type} {op : UnOp} {x : V} {u : Value} {K : SV → Option ρ} {r : ρ} (h : evUn op x K = some r) (hx : Lv m x u) (w : World) :
  ∃ sv z,(Op.unary op u).run P w = .ok z w ∧ Sv m sv z ∧ K sv = some r:=by
 cases op <;> cases x <;> simp only [evUn] at h <;> try (simp at h; done)
 ·rename_i k n
  simp only [Lv] at hx
  subst hx
  have kk : ∀ {z : Int},Sv m (.one (.i k z)) (.int k z):=fun {z}=>rfl
  exact ⟨_,_,by simp only [Op.unary,Op.intArith]; rfl,kk,h⟩
 ·rename_i b
  simp only [Lv] at hx
  subst hx
  have bb : ∀ {z : Bool},Sv m (.one (.b z)) (.bool z):=fun {z}=>rfl
  exact ⟨_,_,by simp only [Op.unary]; rfl,bb,h⟩
end
end Go.Ev
end
section
namespace Go.Ev
open Go.RowKit (Below)
theorem cells_of_heap {w : World} {b : Nat} {cs : List Value} {T : Nat} {fr : Nat × Nat} (h : w.heap[b]? = some (.cells cs.toArray T fr)) : CellsAt w b 0 cs:=by
 intro j v hv
 simp only [World.cell?,h,Nat.zero_add]
 simpa using hv
theorem cellsAt_drop {w : World} {b o : Nat} {cs : List Value} (h : CellsAt w b o cs) (n : Nat) : CellsAt w b (o + n) (cs.drop n):=by
 intro j v hv
 rw [List.getElem?_drop] at hv
 have:=h (n + j) v hv
 rwa [Nat.add_assoc]
theorem cellsAt_take {w : World} {b o : Nat} {cs : List Value} (h : CellsAt w b o cs) (n : Nat) : CellsAt w b o (cs.take n):=by
 intro j v hv
 rw [List.getElem?_take] at hv
 split at hv
 ·exact h j v hv
 ·simp at hv
theorem notAgg_size {t : Ty} (h : t.isAgg = false) : t.size = 1:=by
 cases t <;> simp [Ty.isAgg] at h <;> rfl
theorem len1 {α : Type} {l : List α} (h : l.length = 1) : ∃ a,l = [a]:=by
 match l,h with
 | [a],_=>exact ⟨a,rfl⟩
section
variable {P : Program} {Γ : Tab} {T : Nat} {ti : TI}
theorem run_load' (hT : TyOk P Γ T ti) {w : World} {b o : Nat} {cs : List Value} (hc : CellsAt w b o cs) (hl : cs.length = ti.ty.size) :
  ∃ z,(Instr.loadAt T (.pointer (some ⟨b,o,none⟩))).run P w = .ok z w ∧ AsVal ti.ty cs z:=by
 obtain ⟨d,hd,hrow,_⟩:=hT.under
 obtain ⟨i,z,zs,hi,hs,_⟩:=hT.info
 cases ha : ti.ty.isAgg with
 | true =>
  refine ⟨.agg cs.toArray,run_loadAt_mid w b o T cs d hc hd (by rw [hrow,ha]) (by simp [hi,hs,hl]),by simp [AsVal,ha]⟩
 | false =>
  obtain ⟨v,rfl⟩:=len1 (by rw [hl]; exact notAgg_size ha)
  refine ⟨v, ?_,by simp [AsVal,ha]⟩
  have hcell:=hc 0 v rfl
  have hagg : (isAgg T).run P w = .ok false w:=by
   unfold isAgg
   rw [Sem.run_bind,run_underlying hd w]
   rw [ha] at hrow
   cases d <;> simp_all [TypeDesc.isRow]
  simp only [Nat.add_zero] at hcell
  simp only [Instr.loadAt,Instr.sureAddr,loadVar,Sem.run_bind,Sem.run_pure,Result.andThen_ok,hagg,Bool.false_eq_true,if_false,run_load,hcell]
theorem run_store' (hT : TyOk P Γ T ti) {w : World} {b o : Nat} {cur : Array Value} {U : Nat} (hh : w.heap[b]? = some (.cells cur U (0,0))) {v : Value} {vs : List Value} (hv : v.cells = vs.toArray)
  (hl : vs.length = ti.ty.size) (hfit : o + vs.length ≤ cur.size) (h1 : ∀ u ∈ vs,u.oneCell' = true) :
  (Instr.storeAt T (.pointer (some ⟨b,o,none⟩)) v).run P w = .ok () (w.setRow b (cur.toList.take o ++ vs ++ cur.toList.drop (o + vs.length)).toArray):=by
 obtain ⟨i,z,zs,hi,hs,_⟩:=hT.info
 have hst:=run_storeCells_at P b o U vs 0 cur w hh (by simpa using hfit) h1
 simp only [Nat.add_zero] at hst
 have e : ¬ vs.length ≠ i.size:=by rw [hs,hl]; simp
 simp only [Instr.storeAt,Instr.sureAddr,storeVar,sizeOf,typeInfo,Sem.run_bind,Sem.run_pure,Result.andThen_ok,run_program,hi,hv,List.size_toArray,e,if_false,hst]
end
section
variable {P : Program} {w0 : Base} {G0 : Nat → Prop} {N : Nat} {F : List (Nat × Obj)} {m : St} {e : Env} {tm : Array Value} {Γ : Tab} {ρ : Type}
theorem ownAt_lt : ∀ {t : Ty} {o : Nat},ownAt t o = true → o < t.size
 | .osl _ _,o,h=>by
  have:=Nat.eq_of_beq_eq_true h
  subst this
  exact Nat.one_pos
 | .pair a b,o,h=>by
  simp only [ownAt] at h
  simp only [Ty.size]
  split at h
  ·have:=ownAt_lt h; omega
  ·have:=ownAt_lt h; omega
 | .int _,_,h | .bool,_,h | .str,_,h | .sl _,_,h | .unit,_,h | .any,_,h=>by simp [ownAt] at h
theorem encS_lv {id q sz j : Nat} (hid : m.D id) (hq : m.D q) (hb : ∃ b n c,m.ν id = .slice (some ⟨b,0,none⟩) n c ∧ j < n) : ∀ (t : Ty) (x : t.den) (o : Nat) (cs : List Value),Val m.w m.G t x cs →
  (∀ p,ownAt t p = true → cs[p]? = some (m.hd q (j * sz + (o + p))) ∧ ∃ A n c,m.hd q (j * sz + (o + p)) = .slice A n c) → R2 (Lv m) (encS id q sz j t x o) cs
 | .int k,x,o,cs,h,_=>Val.enc (t:=.int k) h
 | .bool,x,o,cs,h,_=>Val.enc (t:=.bool) h
 | .str,x,o,cs,h,_=>Val.enc (t:=.str) h
 | .sl t,x,o,cs,h,_=>Val.enc (t:=.sl t) h
 | .unit,x,o,cs,h,_=>Val.enc (t:=.unit) h
 | .any,x,o,cs,h,_=>Val.enc (t:=.any) h
 | .mp k v,x,o,cs,h,_=>Val.enc (t:=.mp k v) h
 | .omp k v,x,o,cs,h,_=>Val.enc (t:=.omp k v) h
 | .osl T t,x,o,cs,⟨v,e,_⟩,hx=>by
  obtain ⟨g1,g2⟩:=hx 0 rfl
  subst e
  simp only [List.getElem?_cons_zero,Option.some.injEq,Nat.add_zero] at g1 g2
  exact ⟨⟨hid,hq,hb,g1,by rw [g1]; exact g2⟩,trivial⟩
 | .pair a b,x,o,cs,⟨c1,c2,e,h1,h2⟩,hx=>by
  subst e
  refine (encS_lv hid hq hb a x.1 o c1 h1 fun p hp=>?_).append (encS_lv hid hq hb b x.2 (o + a.size) c2 h2 fun p hp=>?_)
  ·have hlt:=ownAt_lt hp
   obtain ⟨g1,g2⟩:=hx p (by simp only [ownAt]; rw [show Nat.blt p a.size = true from by rw [Nat.blt_eq]; exact hlt]; exact hp)
   rw [List.getElem?_append_left (by rw [h1.length]; exact hlt)] at g1
   exact ⟨g1,g2⟩
  ·obtain ⟨g1,g2⟩:=hx (a.size + p) (by
    simp only [ownAt]
    have : Nat.blt (a.size + p) a.size = false:=by
     cases hb : Nat.blt (a.size + p) a.size with
     | false=>rfl
     | true=>rw [Nat.blt_eq] at hb; omega
    rw [this]
    simpa using hp)
   rw [List.getElem?_append_right (by rw [h1.length]; omega),h1.length,Nat.add_sub_cancel_left] at g1
   rw [show o + (a.size + p) = o + a.size + p from by omega] at g1 g2
   exact ⟨g1,g2⟩
theorem encR_lv {id q j U b n c : Nat} {t : Ty} {xs : List t.den} (hid : m.D id) (hob : Ob m id (.row U t q xs)) (hν : m.ν id = .slice (some ⟨b,0,none⟩) n c) (hj : j < n) :
  ∃ cs',CellsAt m.w b (j * t.size) cs' ∧ R2 (Lv m) (encR id q t.size j t (xs.getD j t.zero)) cs':=by
 obtain ⟨h1,h2,h3,h4,hq⟩:=hob
 rcases h1 with ⟨e1,_⟩ | ⟨b',c',cs,e1,hh,k1,k2,k3,hx⟩
 ·rw [hν] at e1; simp at e1
 ·rw [hν] at e1
  simp only [Value.slice.injEq,Option.some.injEq,Addr.mk.injEq,and_true] at e1
  obtain ⟨rfl,rfl,rfl⟩:=e1
  obtain ⟨cs',hc,hv⟩:=hx j hj
  refine ⟨cs',hc, ?_⟩
  unfold encR
  cases ht : t.noOwn with
  | true=>exact hv.enc
  | false =>
   refine encS_lv hid hq ⟨b,_,c,hν,hj⟩ t _ 0 cs' hv fun p hp=>?_
   obtain ⟨g1,g2⟩:=h4 b (by rw [hν]; rfl) j hj p hp
   rw [Nat.zero_add]
   have hlt:=ownAt_lt hp
   obtain ⟨u,hu⟩ : ∃ u,cs'[p]? = some u:=⟨_,List.getElem?_eq_getElem (by rw [hv.length]; exact hlt)⟩
   have:=cells1 hc hu g1
   rw [hu,← this]
   exact ⟨rfl,g2⟩
theorem load_sound (hΓ : TabOk P Γ) (hR : Rel w0 G0 N F m e tm) {T : Nat} {x : V} {v : Value} {K : SV → Env → Option ρ} {r : ρ} (h : evLoad Γ T x e K = some r) (hx : Lv m x v) :
  ∃ sv z,(Instr.loadAt T v).run P m.w = .ok z m.w ∧ Sv m sv z ∧ K sv e = some r:=by
 unfold evLoad at h
 cases hf : find Γ T with
 | none=>simp [hf] at h
 | some ti =>
  simp only [hf] at h
  have hT:=hΓ T ti hf
  have key : ∀ (b o : Nat) (l : List V) (cs : List Value),CellsAt m.w b o cs → R2 (Lv m) l cs → ∀ s,Nat.ble ti.ty.size (lenN l) = true → asSV ti.ty (takeN ti.ty.size l) = some s →
    ∃ z,(Instr.loadAt T (.pointer (some ⟨b,o,none⟩))).run P m.w = .ok z m.w ∧ Sv m s z:=by
   intro b o l cs hc hl s hn hs
   have hn' : ti.ty.size ≤ l.length:=by rw [← y125q]; exact Nat.le_of_ble_eq_true hn
   obtain ⟨z,hz,ha⟩:=run_load' hT (cellsAt_take hc ti.ty.size) (by rw [List.length_take,← hl.length]; omega)
   rw [takeN_eq] at hs
   exact ⟨z,hz,asSV_sv hs (hl.take _) ha⟩
  cases x with
  | loc id off =>
   obtain ⟨hid,rfl⟩:=hx
   simp only at h
   cases ho : e.obj id with
   | none=>simp [ho] at h
   | some o =>
    cases o with
    | var vs =>
     simp only [ho] at h
     obtain ⟨cs,U,hh,hr⟩:=(hR.obj id _ ho).2
     cases hb : Nat.ble ti.ty.size (lenN (dropN off vs)) with
     | false=>simp [hb] at h
     | true =>
      simp only [hb] at h
      cases hs : asSV ti.ty (takeN ti.ty.size (dropN off vs)) with
      | none=>simp [hs] at h
      | some s =>
       simp only [hs] at h
       rw [y101q] at hb hs
       have hc:=cellsAt_drop (cells_of_heap hh) off
       rw [Nat.zero_add] at hc
       obtain ⟨z,hz,hv⟩:=key _ _ _ _ hc (hr.drop off) s hb hs
       exact ⟨s,z,hz,hv,h⟩
    | _=>simp [ho] at h
  | el t y off =>
   obtain ⟨b,o,cs,rfl,hH,hc,hv⟩:=hx
   simp only at h
   cases hb : Nat.ble ti.ty.size (lenN (dropN off (enc t y []))) with
   | false=>simp [hb] at h
   | true =>
    simp only [hb] at h
    cases hs : asSV ti.ty (takeN ti.ty.size (dropN off (enc t y []))) with
    | none=>simp [hs] at h
    | some s =>
     simp only [hs] at h
     rw [y101q] at hb hs
     obtain ⟨z,hz,hv⟩:=key _ _ _ _ (cellsAt_drop hc off) (hv.enc.drop off) s hb hs
     exact ⟨s,z,hz,hv,h⟩
  | rel id sz j off =>
   obtain ⟨hid,b,n,c,hν,hj,rfl⟩:=hx
   simp only at h
   cases ho : e.obj id with
   | none=>simp [ho] at h
   | some o =>
    cases o with
    | row U t q xs =>
     simp only [ho] at h
     have hob:=(hR.obj id _ ho).2
     cases hsz : Nat.beq sz t.size with
     | false=>simp [hsz] at h
     | true =>
      have hsz':=Nat.eq_of_beq_eq_true hsz
      subst hsz'
      obtain ⟨cs',hc,hl⟩:=encR_lv hid hob hν hj
      generalize encR id q t.size j t (xs.getD j t.zero) = y at h hl
      cases hb : Nat.ble ti.ty.size (lenN (dropN off y)) with
      | false=>simp [hsz,hb] at h
      | true =>
       simp only [hsz,hb] at h
       cases hs : asSV ti.ty (takeN ti.ty.size (dropN off y)) with
       | none=>simp [hs] at h
       | some s =>
        simp only [hs] at h
        rw [y101q] at hb hs
        obtain ⟨z,hz,hv⟩:=key _ _ _ _ (cellsAt_drop hc off) (hl.drop off) s hb hs
        exact ⟨s,z,hz,hv,h⟩
    | _=>simp [ho] at h
  | _=>simp at h
end
end Go.Ev
end
section
namespace Go.Ev
open Go.RowKit (Below)
theorem y113q {α : Type} (l ys : List α) (p : Nat) (h : p + ys.length ≤ l.length) (i : Nat) :
  (l.take p ++ ys ++ l.drop (p + ys.length))[i]? = if i < p then l[i]? else if i < p + ys.length then ys[i - p]? else l[i]?:=by
 have hp : (l.take p).length = p:=by rw [List.length_take]; omega
 by_cases h1 : i < p
 ·rw [if_pos h1,List.append_assoc,List.getElem?_append_left (by rw [hp]; exact h1),List.getElem?_take,if_pos h1]
 ·rw [if_neg h1]
  by_cases h2 : i < p + ys.length
  ·rw [if_pos h2,List.getElem?_append_left (by rw [List.length_append,hp]; exact h2),List.getElem?_append_right (by rw [hp]; omega),hp]
  ·rw [if_neg h2,List.getElem?_append_right (by rw [List.length_append,hp]; omega),List.length_append,hp,List.getElem?_drop]
   congr 1
   omega
theorem y126q {α : Type} (l ys : List α) (p : Nat) (h : p + ys.length ≤ l.length) : (l.take p ++ ys ++ l.drop (p + ys.length)).length = l.length:=by
 simp only [List.length_append,List.length_take,List.length_drop]
 omega
theorem y37q {w : World} {b : Nat} {cs : List Value} {T : Nat} {fr : Nat × Nat} (h : w.heap[b]? = some (.cells cs.toArray T fr)) (o : Nat) (l : List Value) : CellsAt w b o l ↔ ∀ j v,l[j]? = some v → cs[o + j]? = some v:=by
 constructor
 ·intro hc j v hv
  have:=hc j v hv
  simp only [World.cell?,h] at this
  simpa using this
 ·intro hc j v hv
  simp only [World.cell?,h]
  simpa using hc j v hv
theorem y80q {α ρ : Type} {x : Option α} {f : α → Option ρ} {r : ρ} (h : bnd x f = some r) : ∃ y,x = some y ∧ f y = some r:=by
 cases x with
 | none=>simp [bnd] at h
 | some y=>exact ⟨y,rfl,h⟩
section
variable {P : Program} {w0 : Base} {G0 : Nat → Prop} {N : Nat} {F : List (Nat × Obj)} {m : St} {e : Env} {tm : Array Value} {Γ : Tab} {ρ : Type} {os : List (Nat × Obj)}
theorem below_setRow {B : Nat} {w w' : World} (h : Below B w w') {b : Nat} (hb : B ≤ b) (cs : Array Value) : Below B w (w'.setRow b cs) :=
 h.trans ⟨rfl,rfl,rfl,by simp [World.setRow],fun k hk=>setRow_other _ _ _ _ (by omega)⟩
theorem kept_setRow {B : Base} {w' : World} (h : Kept B w') {b : Nat} (hb : Mine B b) (cs : Array Value) : Kept B (w'.setRow b cs) :=
 ⟨h.os,h.tape,h.output,by simpa [World.setRow] using h.size,fun k hk hm=>(setRow_other _ _ _ _ (by
  rintro rfl
  rcases hb with hb | hb
  ·exact absurd hk (Nat.not_lt.2 hb)
  ·exact hm hb)).trans (h.block k hk hm),below_setRow h.old (by
  rcases hb with hb | hb
  ·exact Nat.le_trans h.oldS hb
  ·exact h.oldM b hb) cs,h.oldM,h.oldS⟩
theorem ObjsOk.wrote (h : ObjsOk w0 G0 m os) {i b : Nat} (hb : blk os m i b) (cs : Array Value) :
  m.le { m with w:=m.w.setRow b cs } ∧ Kept w0 (m.w.setRow b cs) ∧ (∀ j c,j ≠ i → blk os m j c → (m.w.setRow b cs).heap[c]? = m.w.heap[c]?) ∧ m.w.heap.size = (m.w.setRow b cs).heap.size:=by
 obtain ⟨o1,o2,o3,o4⟩:=h.out i b hb
 refine ⟨⟨fun c hc=>⟨hc,setRow_other _ _ _ _ fun e=>o1 (e ▸ hc)⟩,fun c hc=>⟨hc,setRow_other _ _ _ _ fun e=>o2 (e ▸ hc)⟩,fun _ h=>h,fun _ _=>rfl,fun _ _=>rfl,fun _ _=>rfl,fun _ _=>rfl⟩,kept_setRow h.base o4 cs,fun j c hj hc=>setRow_other _ _ _ _ fun e=>hj (h.inj j i b (e ▸ hc) hb),by simp [World.setRow]⟩
theorem splice_left {c1 c2 vs : List Value} {n : Nat} (h : n + vs.length ≤ c1.length) : (c1 ++ c2).take n ++ vs ++ (c1 ++ c2).drop (n + vs.length) = (c1.take n ++ vs ++ c1.drop (n + vs.length)) ++ c2:=by
 rw [List.take_append_of_le_length (by omega),List.drop_append_of_le_length h]
 simp
theorem splice_right {c1 c2 vs : List Value} {n : Nat} (h : c1.length ≤ n) : (c1 ++ c2).take n ++ vs ++ (c1 ++ c2).drop (n + vs.length) = c1 ++ (c2.take (n - c1.length) ++ vs ++ c2.drop (n - c1.length + vs.length)):=by
 have e1 : (c1 ++ c2).take n = c1 ++ c2.take (n - c1.length):=by rw [List.take_append,List.take_of_length_le h]
 have e2 : (c1 ++ c2).drop (n + vs.length) = c2.drop (n - c1.length + vs.length):=by
  rw [List.drop_append,List.drop_of_length_le (by omega),List.nil_append]
  congr 1
  omega
 rw [e1,e2]
 simp
theorem setL_ok {w : World} {G : Nat → Prop} {u : Ty} (hu : u.noOwn = true) {y : u.den} {vs : List Value} (hy : Val w G u y vs) : ∀ (t : Ty) (x : t.den) (n : Nat) (z : t.den) (cs : List Value),setL u y t x n = some z → Val w G t x cs →
  n + vs.length ≤ cs.length ∧ Val w G t z (cs.take n ++ vs ++ cs.drop (n + vs.length)) ∧ (∀ bl,Inn w G t x cs bl → Inn w G t z (cs.take n ++ vs ++ cs.drop (n + vs.length)) bl) ∧ ∀ o,ownAt t o = true → o < n ∨ n + vs.length ≤ o:=by
 have whole : ∀ (t : Ty) (x : t.den) (z : t.den) (cs : List Value),cast? u t y = some z → Val w G t x cs →
   0 + vs.length ≤ cs.length ∧ Val w G t z (cs.take 0 ++ vs ++ cs.drop (0 + vs.length)) ∧ (∀ bl,Inn w G t x cs bl → Inn w G t z (cs.take 0 ++ vs ++ cs.drop (0 + vs.length)) bl) ∧ ∀ o,ownAt t o = true → o < 0 ∨ 0 + vs.length ≤ o:=by
  intro t x z cs h hx
  have hz:=Val.cast h hy
  obtain ⟨e,_⟩:=cast?_some h
  subst e
  have e1 : cs.take 0 ++ vs ++ cs.drop (0 + vs.length) = vs:=by
   rw [List.drop_of_length_le (by rw [hx.length,hy.length]; omega)]
   simp
  rw [e1]
  refine ⟨by rw [hx.length,hy.length]; omega,hz,fun bl hb=>?_,fun o ho=>by rw [y144q hu] at ho; cases ho⟩
  rw [Inn.is_nil hu hb]
  exact Inn.nil hu hz.length
 have leaf : ∀ (t : Ty) (x : t.den) (n : Nat) (z : t.den) (cs : List Value),(∀ a b,t ≠ .pair a b) → setL u y t x n = some z → Val w G t x cs →
   n + vs.length ≤ cs.length ∧ Val w G t z (cs.take n ++ vs ++ cs.drop (n + vs.length)) ∧ (∀ bl,Inn w G t x cs bl → Inn w G t z (cs.take n ++ vs ++ cs.drop (n + vs.length)) bl) ∧ ∀ o,ownAt t o = true → o < n ∨ n + vs.length ≤ o:=by
  intro t x n z cs hp h hx
  cases n with
  | zero=>exact whole t x z cs (by cases t <;> first | exact absurd rfl (hp _ _) | exact h) hx
  | succ n=>cases t <;> first | exact absurd rfl (hp _ _) | simp [setL] at h
 intro t
 induction t with
 | pair a b iha ihb =>
  intro x n z cs h hx
  have recL : Nat.blt n a.size = true → ∀ z1,setL u y a x.1 n = some z1 → (z1,x.2) = z → n + vs.length ≤ cs.length ∧ Val w G (.pair a b) z (cs.take n ++ vs ++ cs.drop (n + vs.length)) ∧ (∀ bl,Inn w G (.pair a b) x cs bl → Inn w G (.pair a b) z (cs.take n ++ vs ++ cs.drop (n + vs.length)) bl) ∧ ∀ o,ownAt (.pair a b) o = true → o < n ∨ n + vs.length ≤ o:=by
   intro hb z1 hs hz
   subst hz
   have hlt : n < a.size:=by rw [Nat.blt_eq] at hb; exact hb
   obtain ⟨c1,c2,rfl,h1,h2⟩:=hx
   obtain ⟨g1,g2,g3,g4⟩:=iha x.1 n z1 c1 hs h1
   rw [splice_left g1]
   have hlen : (c1.take n ++ vs ++ c1.drop (n + vs.length)).length = a.size:=g2.length
   refine ⟨by simp; omega,⟨_,_,rfl,g2,h2⟩,fun bl ⟨d1,d2,b1,b2,e1,e2,e3,i1,i2⟩=>?_,fun o ho=>?_⟩
   ·obtain ⟨rfl,rfl⟩:=List.append_inj e1 (by rw [h1.length,e2])
    exact ⟨_,_,b1,b2,rfl,hlen,e3,g3 _ i1,i2⟩
   ·have hle:=h1.length
    simp only [ownAt] at ho
    split at ho
    ·exact g4 o ho
    ·rename_i hb'
     have : a.size ≤ o:=by
      rcases Nat.lt_or_ge o a.size with h | h
      ·have : Nat.blt o a.size = true:=by rw [Nat.blt_eq]; exact h
       rw [this] at hb'; cases hb'
      ·exact h
     exact .inr (by omega)
  have recR : Nat.blt n a.size = false → ∀ z1,setL u y b x.2 (n - a.size) = some z1 → (x.1,z1) = z → n + vs.length ≤ cs.length ∧ Val w G (.pair a b) z (cs.take n ++ vs ++ cs.drop (n + vs.length)) ∧ (∀ bl,Inn w G (.pair a b) x cs bl → Inn w G (.pair a b) z (cs.take n ++ vs ++ cs.drop (n + vs.length)) bl) ∧ ∀ o,ownAt (.pair a b) o = true → o < n ∨ n + vs.length ≤ o:=by
   intro hb z1 hs hz
   subst hz
   have hge : a.size ≤ n:=by
    rcases Nat.lt_or_ge n a.size with h | h
    ·have : Nat.blt n a.size = true:=by rw [Nat.blt_eq]; exact h
     rw [this] at hb; cases hb
    ·exact h
   obtain ⟨c1,c2,rfl,h1,h2⟩:=hx
   obtain ⟨g1,g2,g3,g4⟩:=ihb x.2 (n - a.size) z1 c2 hs h2
   have hl1 : c1.length = a.size:=h1.length
   rw [splice_right (by omega),hl1]
   refine ⟨by simp; omega,⟨_,_,rfl,h1,g2⟩,fun bl ⟨d1,d2,b1,b2,e1,e2,e3,i1,i2⟩=>?_,fun o ho=>?_⟩
   ·obtain ⟨rfl,rfl⟩:=List.append_inj e1 (by rw [h1.length,e2])
    exact ⟨_,_,b1,b2,rfl,hl1,e3,i1,g3 _ i2⟩
   ·simp only [ownAt] at ho
    split at ho
    ·rename_i hb'
     have : o < a.size:=by rw [Nat.blt_eq] at hb'; exact hb'
     exact .inl (by omega)
    ·rename_i hb'
     have : a.size ≤ o:=by
      rcases Nat.lt_or_ge o a.size with h | h
      ·have : Nat.blt o a.size = true:=by rw [Nat.blt_eq]; exact h
       rw [this] at hb'; cases hb'
      ·exact h
     rcases g4 _ ho with g | g
     ·exact .inl (by omega)
     ·exact .inr (by omega)
  simp only [setL] at h
  cases hn : Nat.beq n 0 with
  | true =>
   cases hc : cast? u (.pair a b) y with
   | some z' =>
    simp only [hn,hc,Option.some.injEq] at h
    subst h
    have:=Nat.eq_of_beq_eq_true hn
    subst this
    exact whole _ x z' cs hc hx
   | none =>
    simp only [hn,hc] at h
    cases hb : Nat.blt n a.size with
    | true =>
     simp only [hb] at h
     cases hs : setL u y a x.1 n with
     | none=>simp [hs] at h
     | some z1=>simp only [hs,Option.some.injEq] at h; exact recL hb z1 hs h
    | false =>
     simp only [hb] at h
     cases hs : setL u y b x.2 (n - a.size) with
     | none=>simp [hs] at h
     | some z1=>simp only [hs,Option.some.injEq] at h; exact recR hb z1 hs h
  | false =>
   simp only [hn] at h
   cases hb : Nat.blt n a.size with
   | true =>
    simp only [hb] at h
    cases hs : setL u y a x.1 n with
    | none=>simp [hs] at h
    | some z1=>simp only [hs,Option.some.injEq] at h; exact recL hb z1 hs h
   | false =>
    simp only [hb] at h
    cases hs : setL u y b x.2 (n - a.size) with
    | none=>simp [hs] at h
    | some z1=>simp only [hs,Option.some.injEq] at h; exact recR hb z1 hs h
 | _=>exact fun x n z cs h hx=>leaf _ x n z cs (fun a b e=>by cases e) h hx
theorem store_sound (hΓ : TabOk P Γ) (hR : Rel w0 G0 N F m e tm) {T : Nat} {x : V} {s : SV} {xv v : Value} {K : SV → Env → Option ρ} {r : ρ} (h : evStore Γ T x s e K = some r) (hx : Lv m x xv) (hs : Sv m s v) :
  ∃ m' e',(Instr.storeAt T xv v).run P m.w = .ok () m'.w ∧ Stp m e m' e' ∧ m'.D = m.D ∧ Rel w0 G0 N F m' e' tm ∧ K (.tup []) e' = some r:=by
 unfold evStore at h
 cases hf : find Γ T with
 | none=>simp [hf] at h
 | some ti =>
  simp only [hf] at h
  have hT:=hΓ T ti hf
  cases hlen : Nat.beq (lenN s.cells) ti.ty.size with
  | false=>simp [hlen] at h
  | true =>
   cases htup : s.isTup with
   | true=>simp [hlen,htup] at h
   | false =>
    simp only [hlen,htup] at h
    obtain ⟨vs,hvc,hr⟩:=hs.cells htup
    have hl : vs.length = ti.ty.size:=by rw [← hr.length,← y125q]; exact Nat.eq_of_beq_eq_true hlen
    have h1:=hr.oneCells
    cases x with
    | loc id off =>
     obtain ⟨hid,rfl⟩:=hx
     simp only at h
     cases ho : e.obj id with
     | none=>simp [ho] at h
     | some o =>
      cases o with
      | var us =>
       simp only [ho] at h
       obtain ⟨cs,U,hh,hrc⟩:=(hR.obj id _ ho).2
       cases hb : Nat.ble (off + ti.ty.size) (lenN us) with
       | false=>simp [hb] at h
       | true =>
        simp only [hb] at h
        have hfit : off + vs.length ≤ us.length:=by rw [hl,← y125q]; exact Nat.le_of_ble_eq_true hb
        have hbk : blk (e.objs ++ F) m id (m.β id):=y38q (by
         have ho' : find e.objs id = some (.var us):=ho
         simp [blk,ho'])
        have hrun:=run_store' (P:=P) hT hh hvc hl (o:=off) (by simp only [List.size_toArray]; rw [← hrc.length]; exact hfit) h1
        obtain ⟨hle,hbase,hoth,hsz⟩:=hR.ok.wrote hbk (cs.toArray.toList.take off ++ vs ++ cs.toArray.toList.drop (off + vs.length)).toArray
        refine ⟨_,e.setObj id (.var (paste us off s.cells)),hrun, .same hle rfl rfl,rfl, ?_,h⟩
        refine hR.objs hle _ _ (ObjsOk.congr (hR.ok.put hle id _ _ (y91q ho) hbase hoth (fun _ hb=>hb) (fun _ hb=>hb) hsz hR.ok.gh ?_ ?_) (upd_left _ ho)) (fun i o hf=>?_)
        ·refine ⟨cs.take off ++ vs ++ cs.drop (off + vs.length),U, ?_, ?_⟩
         ·exact setRow_heap _ _ _ _ _ _ hh
         ·have hp:=R2.paste hrc hr (n:=off) (by rw [hr.length]; exact hfit)
          exact hp.imp fun _ _ hx=>Lv.le hle hx
        ·intro b hb
         have ho' : find (e.objs ++ F) id = some (.var us):=y91q ho
         simp only [blk,y46q,if_pos,ho',Option.map_some] at hb ⊢
         exact hb
        ·rw [y46q] at hf
         by_cases hi : id = i
         ·subst hi; exact hR.disj _ _ ho
         ·rw [if_neg hi] at hf; exact hR.disj _ _ hf
      | _=>simp [ho] at h
    | rel id sz j off =>
     obtain ⟨m1,hl1,hw1,hD1,hR1⟩:=hR.freeze (rowIds s.cells)
     have hx1:=Lv.le hl1 hx
     have hr1:=hr.imp fun _ _ hx=>Lv.le hl1 hx
     have hnx : (e.freeze (rowIds s.cells)).next = e.next:=rfl
     have hsl : (e.freeze (rowIds s.cells)).slots = e.slots:=rfl
     generalize e.freeze (rowIds s.cells) = e1 at h hR1 hnx hsl
     clear hx
     obtain ⟨hid,b,n,c,hν,hj,rfl⟩:=hx1
     simp only at h
     cases ho : e1.obj id with
     | none=>simp [ho] at h
     | some o =>
      cases o with
      | row U t qn xs =>
       simp only [ho] at h
       have hob:=(hR1.obj id _ ho).2
       cases hsz : Nat.beq sz t.size with
       | false=>simp [hsz] at h
       | true =>
        have hsz':=Nat.eq_of_beq_eq_true hsz
        subst hsz'
        cases hb : Nat.ble (off + ti.ty.size) t.size with
        | false=>simp [hsz,hb] at h
        | true =>
         simp only [hsz,hb] at h
         generalize hy : xs.getD j t.zero = y at h
         have hlv : vs.length = ti.ty.size:=hl
         have hst : ∃ y',storeEl e1.objs ti.ty s t y off = some y' ∧ K (.tup []) (e1.setObj id (.row U t qn (xs.set j y'))) = some r:=by
          cases hag : (t.isAgg && !Nat.beq ti.ty.size t.size) with
          | true =>
           rw [hag] at h
           simp only at h
           obtain ⟨x0,h1,h⟩:=y80q h
           obtain rfl:=Option.some.inj h1
           cases hse : storeEl e1.objs ti.ty s t y off with
           | none=>simp [hse] at h
           | some y' =>
            simp only [hse] at h
            obtain ⟨x1,h1,h⟩:=y80q h
            obtain rfl:=Option.some.inj h1
            exact ⟨y',rfl,h⟩
          | false =>
           rw [hag] at h
           simp only at h
           cases hse : storeEl e1.objs ti.ty s t y off with
           | none=>simp [hse] at h
           | some y' =>
            simp only [hse] at h
            exact ⟨y',rfl,h⟩
         obtain ⟨y',hse,h⟩:=hst
         have hnx2 : ∃ y',K (.tup []) (e1.setObj id (.row U t qn (xs.set j y'))) = some r ∧ ∀ cj,Val m1.w m1.G t y cj → off + vs.length ≤ cj.length → Val m1.w m1.G t y' (cj.take off ++ vs ++ cj.drop (off + vs.length)) ∧
           (∀ bl,Inn m1.w m1.G t y cj bl → Inn m1.w m1.G t y' (cj.take off ++ vs ++ cj.drop (off + vs.length)) bl) ∧ ∀ o,ownAt t o = true → o < off ∨ off + vs.length ≤ o:=by
          refine ⟨y',h, ?_⟩
          unfold storeEl at hse
          cases hown : t.noOwn with
          | true =>
           simp only [hown] at hse
           intro cj hvj hfit
           have hpv:=R2.paste (Val.enc hvj) hr1 (n:=off) (by rw [(Val.enc hvj).length,hr1.length]; exact hfit)
           have hv':=y31q (Gd:=m1.G) (fun i o hi=>(hR1.obj i o hi).2) (fun _ h=>h) (fun h=>by simp at h) hse hpv
           exact ⟨hv',fun bl hb=>by rw [Inn.is_nil hown hb]; exact Inn.nil hown hv'.length,fun o ho=>by rw [y144q hown] at ho; cases ho⟩
          | false =>
           simp only [hown] at hse
           cases hu : ti.ty.noOwn with
           | false=>simp [hu] at hse
           | true =>
            cases hd : decAll true e1.objs ti.ty s with
            | none=>simp [hu,hd] at hse
            | some y0 =>
             simp only [hu,hd] at hse
             intro cj hvj hfit
             obtain ⟨cs0,hv0,ha0⟩:=decAll_val (Gd:=m1.G) (fun i o hi=>(hR1.obj i o hi).2) (fun _ h=>h) (fun h=>by simp at h) hd (Sv.le hl1 hs)
             have : cs0 = vs:=by
              have e1 : v.cells = cs0.toArray:=by
               unfold AsVal at ha0
               cases hg : ti.ty.isAgg with
               | true=>rw [hg] at ha0; rw [ha0]; rfl
               | false =>
                rw [hg] at ha0
                simp only at ha0
                subst ha0
                cases s with
                | one q=>exact (Lv.oneCell hs).2
                | agg q=>simp [decAll,hg] at hd
                | tup q=>simp [decAll] at hd
              rw [hvc] at e1
              exact (List.toArray_inj e1).symm
             subst this
             obtain ⟨g1,g2,g3,g4⟩:=setL_ok hu hv0 t y off y' cj hse hvj
             exact ⟨g2,g3,g4⟩
         obtain ⟨y',h,hnew2⟩:=hnx2
         ·have hfit : off + vs.length ≤ t.size:=by rw [hl]; exact Nat.le_of_ble_eq_true hb
          obtain ⟨hob,hin0,hnd0,hhd0,hqn⟩:=hob
          rcases hob with ⟨e2,_⟩ | ⟨b',c',cs,e2,hh,h2,h3,h4,hx⟩
          ·rw [hν] at e2; simp at e2
          ·rw [hν] at e2
           simp only [Value.slice.injEq,Option.some.injEq,Addr.mk.injEq,and_true] at e2
           obtain ⟨rfl,rfl,rfl⟩:=e2
           obtain ⟨cj,hcj,hvj⟩:=hx j hj
           rw [hy] at hvj
           have hcl : cj.length = t.size:=hvj.length
           have hin : j * t.size + off + vs.length ≤ cs.length:=by
            rw [h4]
            have : (j + 1) * t.size ≤ c * t.size:=Nat.mul_le_mul_right _ (by omega)
            rw [Nat.add_mul,Nat.one_mul] at this
            omega
           have hown1 : (m1.ν id).ownBlock = some b:=by rw [hν]; rfl
           have hbk : blk (e1.objs ++ F) m1 id b:=y38q (by
            have ho' : find e1.objs id = some (.row U t qn xs):=ho
            simp only [blk,ho']
            exact hin0.head hown1)
           have hrun:=run_store' (P:=P) hT hh hvc hl (o:=j * t.size + off) (by simpa using hin) h1
           obtain ⟨hle,hbase,hoth,hsz2⟩:=hR1.ok.wrote hbk (cs.toArray.toList.take (j * t.size + off) ++ vs ++ cs.toArray.toList.drop (j * t.size + off + vs.length)).toArray
           have hnew:=setRow_heap m1.w b _ (cs.toArray.toList.take (j * t.size + off) ++ vs ++ cs.toArray.toList.drop (j * t.size + off + vs.length)).toArray _ _ hh
           have cellP : ∀ p v,(p < j * t.size + off ∨ j * t.size + off + vs.length ≤ p) → CellsAt m1.w b p [v] → CellsAt (m1.w.setRow b (cs.toArray.toList.take (j * t.size + off) ++ vs ++ cs.toArray.toList.drop (j * t.size + off + vs.length)).toArray) b p [v]:=by
            intro p v hp hc
            rw [y37q hnew]
            have hold:=(y37q hh _ _).1 hc
            intro q u hq
            cases q with
            | succ q=>simp at hq
            | zero =>
             rw [y113q _ _ _ hin]
             rcases hp with hp | hp
             ·rw [if_pos (by omega)]; exact hold 0 u hq
             ·rw [if_neg (by omega),if_neg (by omega)]; exact hold 0 u hq
           have cellJ : CellsAt (m1.w.setRow b (cs.toArray.toList.take (j * t.size + off) ++ vs ++ cs.toArray.toList.drop (j * t.size + off + vs.length)).toArray) b (j * t.size) (cj.take off ++ vs ++ cj.drop (off + vs.length)):=by
            rw [y37q hnew]
            intro q u hq
            rw [y113q _ _ _ (by rw [hcl]; exact hfit)] at hq
            rw [y113q _ _ _ hin]
            have hold:=(y37q hh _ _).1 hcj
            by_cases q1 : q < off
            ·rw [if_pos q1] at hq
             rw [if_pos (by omega)]
             exact hold q u hq
            ·rw [if_neg q1] at hq
             rw [if_neg (by omega)]
             by_cases q2 : q < off + vs.length
             ·rw [if_pos q2] at hq
              rw [if_pos (by omega)]
              have : j * t.size + q - (j * t.size + off) = q - off:=by omega
              rw [this]; exact hq
             ·rw [if_neg q2] at hq
              rw [if_neg (by omega)]
              exact hold q u hq
           have cellO : ∀ j' cj',j' ≠ j → cj'.length = t.size → CellsAt m1.w b (j' * t.size) cj' → CellsAt (m1.w.setRow b (cs.toArray.toList.take (j * t.size + off) ++ vs ++ cs.toArray.toList.drop (j * t.size + off + vs.length)).toArray) b (j' * t.size) cj':=by
            intro j' cj' hjj hlen' hcj'
            rw [y37q hnew]
            intro q u hq
            have hq' : q < t.size:=by
             have:=(List.getElem?_eq_some_iff.1 hq).1
             omega
            rw [y113q _ _ _ hin]
            have hold:=(y37q hh _ _).1 hcj' q u hq
            by_cases hlt : j' < j
            ·have : (j' + 1) * t.size ≤ j * t.size:=Nat.mul_le_mul_right _ hlt
             rw [Nat.add_mul,Nat.one_mul] at this
             rw [if_pos (by omega)]
             exact hold
            ·have : (j + 1) * t.size ≤ j' * t.size:=Nat.mul_le_mul_right _ (by omega)
             rw [Nat.add_mul,Nat.one_mul] at this
             rw [if_neg (by omega),if_neg (by omega)]
             exact hold
           obtain ⟨hvj2,hin2,hoff2⟩:=hnew2 cj hvj (by rw [hcl]; exact hfit)
           have hgd : j < xs.length → (xs.set j y').getD j t.zero = y':=fun hj=>by
            simp [List.getD_eq_getElem?_getD,List.getElem?_set,hj]
           have hgo : ∀ j',j' ≠ j → (xs.set j y').getD j' t.zero = xs.getD j' t.zero:=fun j' hjj=>by
            simp [List.getD_eq_getElem?_getD,List.getElem?_set,Ne.symm hjj]
           refine ⟨_,e1.setObj id (.row U t qn (xs.set j y')),(by rw [← hw1]; exact hrun), .same (hl1.trans hle) hD1 hnx hsl,hD1, ?_,h⟩
           refine hR1.objs hle _ _ (ObjsOk.congr (hR1.ok.put hle id _ _ (y91q ho) hbase hoth (fun _ hb=>hb) (fun _ hb=>hb) hsz2 hR1.ok.gh ?_ ?_) (upd_left _ ho)) (fun i o hf=>?_)
           ·-- the row behind the store
            refine ⟨.inr ⟨b,c,_, ?_,hnew,by simpa using h2,h3, ?_, ?_⟩, ?_,hnd0, ?_,hqn⟩
            ·show m1.ν id = _
             rw [hν]; simp
            ·rw [y126q _ _ _ hin]; exact h4
            ·intro j' hj'
             simp only [List.length_set] at hj'
             by_cases hjj : j' = j
             ·subst hjj
              exact ⟨_,cellJ,by rw [hgd hj']; exact Val.le hle hvj2⟩
             ·obtain ⟨cj',hcj',hvj'⟩:=hx j' hj'
              exact ⟨cj',cellO j' cj' hjj hvj'.length hcj',by rw [hgo j' hjj]; exact Val.le hle hvj'⟩
            ·rcases hin0 with ⟨e,_⟩ | ⟨b2,e,bls,eσ,hlb,hxb⟩
             ·rw [hown1] at e; cases e
             ·rw [hown1] at e
              obtain rfl:=Option.some.inj e
              have hnb : ∀ k,b ∉ bls.getD k []:=fun k hk=>by
               rw [eσ] at hnd0
               exact (List.nodup_cons.1 hnd0).1 (y17q hk)
              refine .inr ⟨b,hown1,bls,eσ,by simpa using hlb,fun j' hj'=>?_⟩
              simp only [List.length_set] at hj'
              obtain ⟨cj',hcj',hlj',hij'⟩:=hxb j' hj'
              have hmono : ∀ (x : t.den) (cs' : List Value),Inn m1.w m1.G t x cs' (bls.getD j' []) → Inn (m1.w.setRow b (cs.toArray.toList.take (j * t.size + off) ++ vs ++ cs.toArray.toList.drop (j * t.size + off + vs.length)).toArray) m1.G t x cs' (bls.getD j' []):=fun x cs' hi =>
               Inn.mono (fun q hq=>⟨hq,(hle.G q hq).2⟩) t x cs' _ (fun q hq=>setRow_other _ _ _ _ fun e=>hnb j' (e ▸ hq)) hi
              by_cases hjj : j' = j
              ·subst hjj
               have:=y23q hcj hcj' (by rw [hcl,hlj'])
               subst this
               rw [hy] at hij'
               exact ⟨_,cellJ,(Val.le hle hvj2).length,by rw [hgd hj']; exact hmono _ _ (hin2 _ hij')⟩
              ·exact ⟨cj',cellO j' cj' hjj hlj' hcj',hlj',by rw [hgo j' hjj]; exact hmono _ _ hij'⟩
            ·intro b2 hb2 j' hj' o ho2
             simp only [List.length_set] at hj'
             have : b2 = b:=by
              have hb2 : (m1.ν id).ownBlock = some b2:=hb2
              rw [hown1] at hb2
              exact (Option.some.inj hb2).symm
             subst this
             obtain ⟨g1,g2⟩:=hhd0 b2 hown1 j' hj' o ho2
             refine ⟨cellP _ _ ?_ g1,g2⟩
             by_cases hjj : j' = j
             ·subst hjj
              rcases hoff2 o ho2 with g | g
              ·exact .inl (by omega)
              ·exact .inr (by omega)
             ·have hlt:=ownAt_lt ho2
              by_cases hlt2 : j' < j
              ·have : (j' + 1) * t.size ≤ j * t.size:=Nat.mul_le_mul_right _ hlt2
               rw [Nat.add_mul,Nat.one_mul] at this
               exact .inl (by omega)
              ·have : (j + 1) * t.size ≤ j' * t.size:=Nat.mul_le_mul_right _ (by omega)
               rw [Nat.add_mul,Nat.one_mul] at this
               exact .inr (by omega)
           ·intro b' hb'
            have ho' : find (e1.objs ++ F) id = some (.row U t qn xs):=y91q ho
            simp only [blk,y46q,if_pos,ho',Option.map_some] at hb' ⊢
            exact hb'
           ·rw [y46q] at hf
            by_cases hi : id = i
            ·subst hi; exact hR1.disj _ _ ho
            ·rw [if_neg hi] at hf; exact hR1.disj _ _ hf
      | _=>simp [ho] at h
    | _=>simp at h
end
end Go.Ev
end
