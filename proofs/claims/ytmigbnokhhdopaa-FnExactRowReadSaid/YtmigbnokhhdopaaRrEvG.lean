import Derived.Test.YtmigbnokhhdopaaRrEvF
import Derived.OpenShut
import Derived.ChangeArms
import Derived.Carry
import Derived.ProofKit
import Derived.ChangeSame
set_option linter.unusedSimpArgs false
set_option linter.unusedVariables false
section
namespace Go.Ev
open Go.RowKit (Below)
def left (n : Nat) (listed : Array Bool) : Nat:=((List.range n).filter fun i=>!listed.getD i true).length
theorem filter_le {α : Type} {p q : α → Bool} (h : ∀ a,q a = true → p a = true) : ∀ l : List α,(l.filter q).length ≤ (l.filter p).length
 | []=>by simp
 | a :: l=>by
  have ih:=filter_le h l
  by_cases hq : q a = true
  ·simp [List.filter_cons,hq,h a hq]; exact ih
  ·by_cases hp : p a = true
   ·simp [List.filter_cons,hq,hp]; omega
   ·simp [List.filter_cons,hq,hp]; exact ih
theorem filter_lt {α : Type} {p q : α → Bool} (h : ∀ a,q a = true → p a = true) (x : α) (hp : p x = true) (hq : q x = false) : ∀ l : List α,x ∈ l → (l.filter q).length < (l.filter p).length
 | [],hx=>by simp at hx
 | a :: l,hx=>by
  have hle:=filter_le h l
  rcases List.mem_cons.1 hx with e | e
  ·subst e
   simp [List.filter_cons,hp,hq]; omega
  ·have ih:=filter_lt h x hp hq l e
   by_cases hqa : q a = true
   ·simp [List.filter_cons,hqa,h a hqa]; exact ih
   ·by_cases hpa : p a = true
    ·simp [List.filter_cons,hqa,hpa]; omega
    ·simp [List.filter_cons,hqa,hpa]; exact ih
section
variable {P : Program} {w0 : Base} {G0 : Nat → Prop} {N : Nat} {Γ : Tab} {Δ : List (Nat × Con)} {k : Nat} {ρ : Type}
structure Amid (w0 : Base) (G0 : Nat → Prop) (N : Nat) (all : List Oper) (n0 : Nat) (T : List Tr) (S0 : Nat → Option SV) (O0 : Nat → Option Obj) (listed : Array Bool) (m : St) (e : Env) (tm : Array Value) : Prop where
 size : listed.size = all.length
 rel : Rel w0 G0 N [] m e tm
 slots : ∀ t,find e.slots t = foldW (fun i=>listed.getD i false) 0 (T.map wS) S0 t
 objs : ∀ i,find e.objs i = foldW (fun i=>listed.getD i false) 0 (T.map wO) O0 i
 nms : ∀ i,m.D i → i < n0 ∨ ∃ j,j < all.length ∧ listed.getD j false = true ∧ n0 + nmW * j ≤ i ∧ i < n0 + nmW * j + nmW
 closed : ∀ j o,all[j]? = some o → listed.getD j false = true → ∀ x ∈ o.after.toList,y58q x = true → listed.getD x.on false = true
theorem getD_set {l : Array Bool} {i j : Nat} (hi : i < l.size) : (l.setIfInBounds i true).getD j false = if i = j then true else l.getD j false:=by
 simp only [Array.getD_eq_getD_getElem?]
 by_cases h : i = j
 ·subst h
  rw [Array.getElem?_setIfInBounds_self_of_lt hi]
  simp
 ·rw [Array.getElem?_setIfInBounds_ne h]
  simp [h]
theorem getD_set' {l : Array Bool} {i j : Nat} (hi : i < l.size) : (l.setIfInBounds i true).getD j true = if i = j then true else l.getD j true:=by
 simp only [Array.getD_eq_getD_getElem?]
 by_cases h : i = j
 ·subst h
  rw [Array.getElem?_setIfInBounds_self_of_lt hi]
  simp
 ·rw [Array.getElem?_setIfInBounds_ne h]
  simp [h]
theorem getD_in {l : Array Bool} {j : Nat} (hj : j < l.size) : l.getD j true = l.getD j false:=by
 simp [Array.getD_eq_getD_getElem?,hj]
theorem any_sound (hΓ : TabOk P Γ) (hΔ : DelOk P w0.o Δ) {ops : Array Oper} {all : List Oper} (hall : ops.toList = all) {an : List (Nat × List Nat)} (han : an = ancs 0 all []) (hdst : ∀ o ∈ all,dstOk w0.ps N o.dst = true) (hok : slotsOk all an 0 all = true)
  {n0 : Nat} {T : List Tr} {S0 : Nat → Option SV} {O0 : Nat → Option Obj} (hT : TrS Γ Δ k all n0 0 all T S0 O0)
  (hC : ∀ i i' x x',i < i' → T[i]? = some x → T[i']? = some x' → x.did = true → x'.did = true → Cl an (rcOf i x) i' x') {Q : Exit → Act → World → Prop}
  (hQ : ∀ m e tm,Rel w0 G0 N [] m e tm → (∀ i,m.D i → i < n0 + nmW * all.length) → (∀ t,find e.slots t = foldW (fun _=>true) 0 (T.map wS) S0 t) → (∀ i,find e.objs i = foldW (fun _=>true) 0 (T.map wO) O0 i) → Q .normal ⟨tm,[]⟩ m.w) :
  ∀ (fuel : Nat) (listed : Array Bool) (m : St) (e : Env) (tm : Array Value),left all.length listed ≤ fuel → Amid w0 G0 N all n0 T S0 O0 listed m e tm → wpAny P .any ops Q fuel listed ⟨tm,[]⟩ m.w:=by
 have hlen : ops.size = all.length:=by rw [← hall,Array.length_toList]
 have hTl:=hT.length
 have fin : ∀ (listed : Array Bool) (m : St) (e : Env) (tm : Array Value),Region.ready .any ops listed = [] → Amid w0 G0 N all n0 T S0 O0 listed m e tm → Q .normal ⟨tm,[]⟩ m.w:=by
  intro listed m e tm hr hA
  have hdone : ∀ i,i < all.length → listed.getD i false = true:=by
   intro i
   induction i using Nat.strongRecOn with
   | _ i ih =>
    intro hi
    cases hb : listed.getD i false with
    | true=>rfl
    | false =>
     exfalso
     have ho : ops[i]? = some all[i]:=by rw [← Array.getElem?_toList,hall]; simp
     obtain ⟨anc,_,_,hback⟩:=y116q all 0 hok i all[i] (by simp)
     rw [Nat.zero_add] at hback
     have hmem : i ∈ Region.ready .any ops listed:=by
      unfold Region.ready
      rw [List.mem_filter]
      refine ⟨List.mem_range.2 (by omega), ?_⟩
      rw [getD_in (by rw [hA.size]; exact hi),hb,ho]
      simp only [Bool.not_false,Bool.true_and,Option.map_some,Option.getD_some]
      rw [Array.all_eq_true_iff_forall_mem]
      intro x hx
      rw [binding_eq]
      cases hbx : y58q x with
      | false=>rfl
      | true =>
       have hlt:=edgesBack_spec hback x (by simpa using hx) hbx
       simp [ih x.on hlt (by omega)]
     rw [hr] at hmem
     simp at hmem
  refine hQ m e tm hA.rel (fun i hi=>?_) (fun t=>?_) (fun i=>?_)
  ·rcases hA.nms i hi with h | ⟨j,hj,_,_,h⟩
   ·omega
   ·have : nmW * (j + 1) ≤ nmW * all.length:=Nat.mul_le_mul_left _ hj
    rw [Nat.mul_add,Nat.mul_one] at this
    omega
  ·rw [hA.slots t]
   refine y62q t _ 0 _ _ rfl fun j f hf _=>?_
   have hj : j < T.length:=by
    have:=(List.getElem?_eq_some_iff.1 hf).1
    simpa using this
   rw [Nat.zero_add]
   exact hdone j (by omega)
  ·rw [hA.objs i]
   refine y62q i _ 0 _ _ rfl fun j f hf _=>?_
   have hj : j < T.length:=by
    have:=(List.getElem?_eq_some_iff.1 hf).1
    simpa using this
   rw [Nat.zero_add]
   exact hdone j (by omega)
 intro fuel
 induction fuel with
 | zero =>
  intro listed m e tm hf hA
  have hr : Region.ready .any ops listed = []:=by
   unfold Region.ready
   rw [List.filter_eq_nil_iff]
   intro i hi hx
   have h0 : ((List.range all.length).filter fun i=>!listed.getD i true) = []:=List.eq_nil_of_length_eq_zero (by unfold left at hf; omega)
   rw [List.filter_eq_nil_iff] at h0
   have:=h0 i (by rw [← hlen]; exact hi)
   simp only [Bool.and_eq_true] at hx
   exact this hx.1
  exact ⟨hr,fin listed m e tm hr hA⟩
 | succ fuel ih =>
  intro listed m e tm hf hA
  refine ⟨fun hr=>fin listed m e tm hr hA,fun i hi=>?_⟩
  unfold Region.ready at hi
  rw [List.mem_filter] at hi
  obtain ⟨hir,hip⟩:=hi
  have hin : i < all.length:=by rw [← hlen]; exact List.mem_range.1 hir
  have ho : ops[i]? = some all[i]:=by rw [← Array.getElem?_toList,hall]; simp
  have hoa : all[i]? = some all[i]:=by simp
  generalize all[i] = o at ho hoa
  simp only [Bool.and_eq_true] at hip
  obtain ⟨hnl,hedg⟩:=hip
  rw [getD_in (by rw [hA.size]; exact hin)] at hnl
  have hLi : listed.getD i false = false:=by simpa using hnl
  have hedges : ∀ x ∈ o.after.toList,y58q x = true → listed.getD x.on false = true:=by
   intro x hx hb
   rw [ho] at hedg
   simp only [Option.map_some,Option.getD_some] at hedg
   rw [Array.all_eq_true_iff_forall_mem] at hedg
   have:=hedg x (by simpa using hx)
   rw [binding_eq,hb] at this
   simpa using this
  obtain ⟨x,hx⟩ : ∃ x,T[i]? = some x:=⟨_,List.getElem?_eq_getElem (by omega)⟩
  have hF:=hT.get i o x hoa hx
  rw [Nat.zero_add] at hF
  obtain ⟨hxd,hxn,hcase⟩:=hF
  have ahead : ∀ anc,find an i = some anc → ∀ a ∈ anc,listed.getD a false = true:=by
   intro anc ha
   rw [han] at ha
   exact anc_done (L:=fun a=>listed.getD a false = true) hA.closed i anc ha fun o' ho'=>by
    rw [hoa] at ho'
    obtain rfl:=Option.some.inj ho'
    exact hedges
  have later : ∀ j,listed.getD j false = true → ∀ anc,find an j = some anc → i ∉ anc:=by
   intro j hj anc ha hm
   rw [han] at ha
   have:=anc_done (L:=fun a=>listed.getD a false = true) hA.closed j anc ha (fun o' ho'=>hA.closed j o' ho' hj) i hm
   rw [hLi] at this
   cases this
  have hTo : ∀ (j : Nat) (y : Tr),T[j]? = some y → ∃ oj : Oper,all[j]? = some oj ∧ y.dst = oj.dst:=by
   intro j y hy
   have hj : j < all.length:=by
    have:=(List.getElem?_eq_some_iff.1 hy).1
    omega
   have:=(hT.get j all[j] y (by simp) hy).1
   exact ⟨all[j],by simp,this⟩
  obtain ⟨anci,hanci,hpair,_⟩:=y116q all 0 hok i o hoa
  rw [Nat.zero_add] at hanci hpair
  have slotsSame : ∀ t,t ∈ looks all o → find e.slots t = foldW (fun q=>decide (q < i)) 0 (T.map wS) S0 t:=by
   intro t ht
   rw [hA.slots t]
   refine y62q t _ 0 _ _ rfl fun j f hfj hft=>?_
   rw [Nat.zero_add]
   rw [List.getElem?_map] at hfj
   cases hy : T[j]? with
   | none=>rw [hy] at hfj; simp at hfj
   | some y =>
    rw [hy] at hfj
    simp only [Option.map_some,Option.some.injEq] at hfj
    subst hfj
    have hyd : y.dst = some t:=by
     unfold wS at hft
     by_cases h : y.dst = some t
     ·exact h
     ·rw [if_neg h] at hft; exact absurd rfl hft
    obtain ⟨oj,hoj,hdj⟩:=hTo j y hy
    rw [hyd] at hdj
    rcases Nat.lt_trichotomy j i with hlt | rfl | hgt
    ·have : listed.getD j false = true:=by
      rcases hpair j oj hlt hoj with h | h
      ·exact ahead anci hanci j h
      ·exact absurd ht ((y132q h).1 t hdj.symm)
     simp [this,hlt]
    ·simp [hLi]
    ·cases hLj : listed.getD j false with
     | false=>simp; omega
     | true =>
      exfalso
      obtain ⟨ancj,hancj,hpj,_⟩:=y116q all 0 hok j oj hoj
      rw [Nat.zero_add] at hancj hpj
      rcases hpj i o hgt hoa with h | h
      ·exact later j hLj ancj hancj h
      ·exact (y132q h).2.1 t hdj.symm ht
  have slotAlone : ∀ t,o.dst = some t → ∀ j y,i < j → T[j]? = some y → listed.getD j false = true → y.dst ≠ some t:=by
   intro t ht j y hgt hy hLj hyd
   obtain ⟨oj,hoj,hdj⟩:=hTo j y hy
   obtain ⟨ancj,hancj,hpj,_⟩:=y116q all 0 hok j oj hoj
   rw [Nat.zero_add] at hancj hpj
   rcases hpj i o hgt hoa with h | h
   ·exact later j hLj ancj hancj h
   ·exact (y132q h).2.2 t ht (by rw [← hdj]; exact hyd)
  have hisz : i < listed.size:=by rw [hA.size]; exact hin
  have hLset : ∀ j,(listed.setIfInBounds i true).getD j false = if i = j then true else listed.getD j false:=fun j=>getD_set hisz
  have hleft : left all.length (listed.setIfInBounds i true) ≤ fuel:=by
   have : left all.length (listed.setIfInBounds i true) < left all.length listed:=by
    unfold left
    refine filter_lt (fun a ha=>?_) i ?_ ?_ _ (List.mem_range.2 hin)
    ·rw [getD_set' hisz] at ha
     by_cases h : i = a
     ·rw [if_pos h] at ha; simp at ha
     ·rw [if_neg h] at ha; exact ha
    ·rw [getD_in hisz,hLi]; rfl
    ·rw [getD_set' hisz,if_pos rfl]; rfl
   omega
  have closed' : ∀ j o',all[j]? = some o' → (listed.setIfInBounds i true).getD j false = true → ∀ y ∈ o'.after.toList,y58q y = true → (listed.setIfInBounds i true).getD y.on false = true:=by
   intro j o' ho' hj y hy hb
   rw [hLset] at hj ⊢
   by_cases h : i = y.on
   ·rw [if_pos h]
   ·rw [if_neg h]
    by_cases hij : i = j
    ·subst hij
     rw [hoa] at ho'
     obtain rfl:=Option.some.inj ho'
     exact hedges y hy hb
    ·rw [if_neg hij] at hj
     exact hA.closed j o' ho' hj y hy hb
  have slots' : ∀ e' : Env,find e'.slots = find e.slots → ∀ t,find (e'.put o.dst x.sv).slots t = foldW (fun q=>(listed.setIfInBounds i true).getD q false) 0 (T.map wS) S0 t:=by
   intro e' he' t
   rw [find_put]
   have hxi : (T.map wS)[i]? = some (wS x):=by rw [List.getElem?_map,hx]; rfl
   by_cases ht : o.dst = some t
   ·have : wS x t = some (some x.sv):=by unfold wS; rw [hxd,if_pos ht]
    rw [foldW_hit t (some x.sv) _ 0 _ i (wS x) hxi this (by rw [Nat.zero_add,hLset,if_pos rfl]) ?_]
    ·simp [ovr,ht]
    ·intro j f hlt hfj hLj
     rw [List.getElem?_map] at hfj
     cases hy : T[j]? with
     | none=>rw [hy] at hfj; simp at hfj
     | some y =>
      rw [hy] at hfj
      simp only [Option.map_some,Option.some.injEq] at hfj
      subst hfj
      rw [Nat.zero_add,hLset,if_neg (by omega)] at hLj
      unfold wS
      rw [if_neg (slotAlone t ht j y hlt hy hLj)]
   ·have e1 : ovr (fun t=>if o.dst = some t then some (some x.sv) else none) (find e'.slots) t = find e.slots t:=by
     simp [ovr,ht,he']
    rw [e1,hA.slots t]
    refine y62q t _ 0 _ _ rfl fun j f hfj hft=>?_
    rw [Nat.zero_add,hLset]
    by_cases hij : i = j
    ·subst hij
     rw [hxi] at hfj
     obtain rfl:=Option.some.inj hfj
     exfalso
     apply hft
     unfold wS
     rw [hxd,if_neg ht]
    ·rw [if_neg hij]
  have guard : ∀ {okp : Bool → SV → Prop},Guarded all o (foldW (fun q=>decide (q < i)) 0 (T.map wS) S0) okp → ∃ g want p s sv v,o.guard = some (g,want) ∧ nth all g = some p ∧ p.dst = some s ∧ tm[s]? = some v ∧ Sv m sv v ∧ okp want sv:=by
   intro okp ⟨g,want,p,s,sv,h1,h2,h3,h4,h5⟩
   rw [← slotsSame s (looks_guard h1 h2 h3)] at h4
   obtain ⟨v,hv,hsv⟩:=hA.rel.slots s sv h4
   exact ⟨g,want,p,s,sv,v,h1,h2,h3,hv,hsv,h5⟩
  unfold wpOp
  rw [ho]
  simp only
  rcases hcase with ⟨hdid,hg,hwr,E0,e1,hE1,hE2,hE3,hev,hout⟩ | ⟨hdid,hsv,hg⟩
  ·-- it is done
   have hw : Region.wanted o (yielded ops tm) = true:=by
    rcases hg with hg | hg
    ·simp [Region.wanted,hg]
    ·obtain ⟨g,want,p,s,sv,v,h1,h2,h3,hv,hsv,h5⟩:=guard hg
     subst h5
     have : v = .bool want:=hsv
     subst this
     simp only [Region.wanted,h1,yielded_bool hall h2 h3 hv]
     cases want <;> rfl
   simp only [hw,if_true]
   left
   have objsSame : ∀ q,q ∈ x.fp → find e.objs q = foldW (fun q=>decide (q < i)) 0 (T.map wO) O0 q:=by
    intro q hq
    rw [hA.objs q]
    refine y62q q _ 0 _ _ rfl fun j f hfj hft=>?_
    rw [Nat.zero_add]
    rw [List.getElem?_map] at hfj
    cases hy : T[j]? with
    | none=>rw [hy] at hfj; simp at hfj
    | some y =>
     rw [hy] at hfj
     simp only [Option.map_some,Option.some.injEq] at hfj
     subst hfj
     have hyd : y.did = true ∧ q ∈ names nmW y.n ++ y.wr:=by
      unfold wO at hft
      by_cases h : y.did = true ∧ q ∈ names nmW y.n ++ y.wr
      ·exact h
      ·rw [if_neg h] at hft; exact absurd rfl hft
     rcases Nat.lt_trichotomy j i with hlt | rfl | hgt
     ·have : listed.getD j false = true:=by
       obtain ⟨anc,ha,hc⟩:=hC j i y x hlt hy hx hyd.1 hdid
       rcases hc with h | ⟨h,_⟩
       ·exact ahead anc ha j h
       ·exact absurd (List.mem_append_right _ hq) (h q hyd.2)
      simp [this,hlt]
     ·simp [hLi]
     ·cases hLj : listed.getD j false with
      | false=>simp; omega
      | true =>
       exfalso
       obtain ⟨anc,ha,hc⟩:=hC i j x y hgt hx hy hdid hyd.1
       rcases hc with h | ⟨_,h⟩
       ·exact later j hLj anc ha h
       ·exact h q (List.mem_append_right _ hq) hyd.2
   have hwsub : ∀ q,q ∈ names nmW x.n ++ x.wr → q ∈ names nmW x.n ++ x.fp:=by
    intro q hq
    rcases List.mem_append.1 hq with h | h
    ·exact List.mem_append_left _ h
    ·rcases hwr with ⟨_,h'⟩ | h'
     ·rw [h'] at h; simp at h
     ·rw [h'] at h; exact List.mem_append_right _ h
   have hok0 : ObjsOk w0 G0 m e.objs:=by have:=hA.rel.ok; rwa [List.append_nil] at this
   have hR0 : Rel w0 G0 N (y77q x.fp e.objs) m E0 tm:=by
    refine ⟨hok0.congr fun q=>?_,fun q ob hq=>?_,hA.rel.tms,fun t sv ht=>?_⟩
    ·rw [y29q,hE2,y115q]
     by_cases hq : q ∈ x.fp
     ·simp only [hq,if_true]
      rw [← objsSame q hq]
      cases find e.objs q <;> rfl
     ·simp only [hq,if_false]
    ·rw [hE2] at hq
     rw [y115q]
     by_cases h : q ∈ x.fp
     ·rw [if_pos h]
     ·rw [if_neg h] at hq; cases hq
    ·rw [hE1] at ht
     by_cases h : t ∈ tmpsOf o.op.operands.toList
     ·rw [if_pos h,← slotsSame t (looks_ops h)] at ht
      exact hA.rel.slots t sv ht
     ·rw [if_neg h] at ht; cases ht
   have hfr : Fr m E0:=by
    intro q h1 h2 hD
    rw [hE3,hxn] at h1 h2
    rcases hA.nms _ hD with h | ⟨j,_,hj,h3,h4⟩
    ·omega
    ·have : j = i:=by
      rcases Nat.lt_trichotomy j i with hlt | rfl | hgt
      ·have : nmW * (j + 1) ≤ nmW * i:=Nat.mul_le_mul_left _ hlt
       rw [Nat.mul_add,Nat.mul_one] at this
       omega
      ·rfl
      ·have : nmW * (i + 1) ≤ nmW * j:=Nat.mul_le_mul_left _ hgt
       rw [Nat.mul_add,Nat.mul_one] at this
       omega
     subst this
     rw [hLi] at hj
     cases hj
   refine op_sound (a:=⟨tm,[]⟩) hΓ hΔ hR0 hfr o hev ?_
   intro m' e' s v ⟨g1,g2,g3,g4,g5⟩
   have e2 : (s,e') = (x.sv,e1):=Option.some.inj g5
   have es : s = x.sv:=congrArg Prod.fst e2
   have ee : e' = e1:=congrArg Prod.snd e2
   subst es; subst ee
   have hxn' : E0.next = x.n:=hE3
   have hsub : ∀ q ob,find (only (names nmW x.n ++ x.wr) e'.objs ++ y77q (names nmW x.n ++ x.wr) e.objs) q = some ob → find (e'.objs ++ y77q x.fp e.objs) q = some ob:=by
    intro q ob hq
    rw [find_mix] at hq
    by_cases h : q ∈ names nmW x.n ++ x.wr
    ·rw [if_pos h] at hq
     exact y91q hq
    ·rw [if_neg h] at hq
     by_cases hqf : q ∈ x.fp
     ·rcases hwr with ⟨hrd,hw0⟩ | hw0
      ·have hqn : q ≠ E0.next:=fun hh=>h (List.mem_append_left _ (by rw [← hxn',hh]; exact mem_names.2 ⟨Nat.le_refl _,by unfold nmW; omega⟩))
       have:=g2 hrd q hqn
       rw [hE2,if_pos hqf,← objsSame q hqf,hq] at this
       exact y91q this
      ·exact absurd (List.mem_append_right _ (by rw [hw0]; exact hqf)) h
     ·have hFq : find (y77q x.fp e.objs) q = some ob:=by rw [y115q,if_neg hqf]; exact hq
      have hn : find e'.objs q = none:=by
       cases hz : find e'.objs q with
       | none=>rfl
       | some z =>
        have:=g3.disj q z hz
        rw [hFq] at this
        cases this
      rw [y29q,hn]
      exact hFq
   have hR1 : Rel w0 G0 N [] m' ⟨e.slots,only (names nmW x.n ++ x.wr) e'.objs ++ y77q (names nmW x.n ++ x.wr) e.objs,e.next⟩ tm:=by
    refine ⟨by rw [List.append_nil]; exact g3.ok.keep hsub,fun _ _ _=>rfl,hA.rel.tms,fun t sv ht=>?_⟩
    obtain ⟨u,hu,hs⟩:=hA.rel.slots t sv ht
    exact ⟨u,hu,hs.le g1.le⟩
   rw [put_act]
   refine ih _ m' (Env.put ⟨e.slots,only (names nmW x.n ++ x.wr) e'.objs ++ y77q (names nmW x.n ++ x.wr) e.objs,e.next⟩ o.dst x.sv) _ hleft ⟨by simp [hA.size],hR1.put (hdst o (List.mem_of_getElem? hoa)) g4,slots' _ rfl,fun q=>?_,fun q hq=>?_,closed'⟩
   ·rw [put_objs]
    simp only
    rw [find_mix]
    have hxi : (T.map wO)[i]? = some (wO x):=by rw [List.getElem?_map,hx]; rfl
    by_cases h : q ∈ names nmW x.n ++ x.wr
    ·rw [if_pos h]
     have : wO x q = some (find e'.objs q):=by
      unfold wO
      rw [if_pos ⟨hdid,h⟩,hout]
     rw [foldW_hit q (find e'.objs q) _ 0 _ i (wO x) hxi this (by rw [Nat.zero_add,hLset,if_pos rfl]) ?_]
     intro j f hlt hfj hLj
     rw [List.getElem?_map] at hfj
     cases hy : T[j]? with
     | none=>rw [hy] at hfj; simp at hfj
     | some y =>
      rw [hy] at hfj
      simp only [Option.map_some,Option.some.injEq] at hfj
      subst hfj
      rw [Nat.zero_add,hLset,if_neg (by omega)] at hLj
      unfold wO
      rw [if_neg]
      intro hyd
      obtain ⟨anc,ha,hc⟩:=hC i j x y hlt hx hy hdid hyd.1
      rcases hc with hc | ⟨_,hc⟩
      ·exact later j hLj anc ha hc
      ·exact hc q (hwsub q h) hyd.2
    ·rw [if_neg h,hA.objs q]
     refine y62q q _ 0 _ _ rfl fun j f hfj hft=>?_
     rw [Nat.zero_add,hLset]
     by_cases hij : i = j
     ·subst hij
      rw [hxi] at hfj
      obtain rfl:=Option.some.inj hfj
      exfalso
      apply hft
      unfold wO
      rw [if_neg fun hh=>h hh.2]
     ·rw [if_neg hij]
   ·rcases g1.D q hq with h | ⟨h,h'⟩
    ·rcases hA.nms q h with h | ⟨j,hj,hjl,h3⟩
     ·exact .inl h
     ·refine .inr ⟨j,hj, ?_,h3⟩
      rw [hLset]
      by_cases hij : i = j
      ·rw [if_pos hij]
      ·rw [if_neg hij]; exact hjl
    ·refine .inr ⟨i,hin,by rw [hLset,if_pos rfl], ?_, ?_⟩
     ·rw [← hxn,← hxn']; exact h
     ·have:=g1.most
      rw [← hxn,← hxn']; omega
  ·-- it is left out
   have hw : Region.wanted o (yielded ops tm) = false:=by
    obtain ⟨g,want,p,s,sv,v,h1,h2,h3,hv,hsv',h5⟩:=guard hg
    rcases h5 with h5 | h5
    ·subst h5
     have : v = .bool (!want):=hsv'
     subst this
     simp only [Region.wanted,h1,yielded_bool hall h2 h3 hv]
     cases want <;> rfl
    ·subst h5
     obtain ⟨xs,e2,hxs⟩:=hsv'
     have : xs = []:=by cases xs with
      | nil=>rfl
      | cons=>exact absurd hxs (by simp [R2])
     subst this
     subst e2
     simp only [Region.wanted,h1,yielded_none hall h2 h3 hv]
     rfl
   simp only [hw,Bool.false_eq_true,if_false]
   rw [put_act]
   have hput:=hA.rel.put (d:=o.dst) (hdst o (List.mem_of_getElem? hoa)) (undef_sv (m:=m))
   rw [← hsv] at hput
   refine ih _ m (e.put o.dst x.sv) _ hleft ⟨by simp [hA.size],hput,slots' e rfl,fun q=>?_,fun q hq=>?_,closed'⟩
   ·rw [put_objs,hA.objs q]
    refine y62q q _ 0 _ _ rfl fun j f hfj hft=>?_
    rw [Nat.zero_add,hLset]
    by_cases hij : i = j
    ·subst hij
     rw [List.getElem?_map,hx] at hfj
     simp only [Option.map_some,Option.some.injEq] at hfj
     subst hfj
     exfalso
     apply hft
     unfold wO
     rw [if_neg fun hh=>by rw [hdid] at hh; cases hh.1]
    ·rw [if_neg hij]
   ·rcases hA.nms q hq with h | ⟨j,hj,hjl,h3⟩
    ·exact .inl h
    ·refine .inr ⟨j,hj, ?_,h3⟩
     rw [hLset]
     by_cases hij : i = j
     ·rw [if_pos hij]
     ·rw [if_neg hij]; exact hjl
theorem draw_any {wo : World} (hΓ : TabOk P Γ) (hΔ : DelOk P wo Δ) {w0 : Base} {G0 : Nat → Prop} {N : Nat} {m : St} {e : Env} {tm : Array Value} {k : Nat} {ρ : Type} {ops : Array Oper} {K : Env → Option ρ} {r : ρ} {Q : Exit → Act → World → Prop} (hwo : w0.o = wo)
  (hdst : ∀ o ∈ ops.toList,dstOk w0.ps N o.dst = true) (hok : slotsOk ops.toList (ancs 0 ops.toList []) 0 ops.toList = true) (hR : Rel w0 G0 N [] m e tm) (hf : Fresh m e) (h : evOpsD Γ Δ k ops.toList (ancs 0 ops.toList []) ops.toList 0 [] e K = some r)
  (hQ : ∀ m' e' tm',Rel w0 G0 N [] m' e' tm' → Fresh m' e' → K e' = some r → Q .normal ⟨tm',[]⟩ m'.w) : wpAny P .any ops Q ops.size (Array.replicate ops.size false) ⟨tm,[]⟩ { m.w with drawn:=m.w.drawn + 1 }:=by
 subst hwo
 obtain ⟨T,ef,g1,g2,g3,g4,g5,_,g7⟩:=trace (n0:=e.next) ops.toList 0 [] e (by simp) h
 have hok0 : ObjsOk w0 G0 m e.objs:=by have:=hR.ok; rwa [List.append_nil] at this
 have hle:=le_drew m
 let m' : St:={ m with w:=m.w.drew }
 have hR' : Rel w0 G0 N [] m' e tm:=hR.world hle (hR.ok.world hle hR.ok.base.drew (fun _ _ _=>rfl) (fun b hb=>⟨.inl hb,hR.ok.liveG b hb⟩) (fun b hb=>⟨.inl hb,hR.ok.liveH b hb⟩) (Nat.le_refl _) hR.ok.gh)
 have hw : ({ m.w with drawn:=m.w.drawn + 1 } : World) = m'.w:=rfl
 rw [hw]
 have hfalse : ∀ j,(Array.replicate ops.size false).getD j false = false:=fun j=>by
  simp only [Array.getD_eq_getD_getElem?,Array.getElem?_replicate]
  split <;> rfl
 refine any_sound (m:=m') (w0:=w0) (G0:=G0) (N:=N) hΓ hΔ rfl rfl hdst hok g1 (fun i i' x x' hlt hx hx' hd hd'=>by simpa using g7 i i' x x' hlt hx hx' hd hd') ?_ ops.size _ e tm ?_ ⟨by simp,hR',fun t=>?_,fun i=>?_,fun i hi=>.inl (hf i hi),fun j o _ hj=>by rw [hfalse] at hj; cases hj⟩
 ·intro m2 e2 tm2 hR2 hD2 hs2 ho2
  have e1 : find e2.slots = find ef.slots:=by rw [g4]; funext t; exact hs2 t
  have e3 : find e2.objs = find ef.objs:=by rw [g5]; funext i; exact ho2 i
  refine hQ m2 ef tm2 ⟨?_,fun _ _ _=>rfl,hR2.tms,fun t sv ht=>hR2.slots t sv (by rw [e1]; exact ht)⟩ (fun i hi=>?_) g2
  ·have:=hR2.ok
   rw [List.append_nil] at this ⊢
   exact this.congr fun i=>by rw [e3]
  ·have:=hD2 i hi
   rw [g3]
   simpa using this
 ·unfold left
  have:=List.length_filter_le (fun i=>!(Array.replicate ops.size false).getD i true) (List.range ops.toList.length)
  simpa using this
 ·rw [y92q (fun j _=>hfalse j)]
 ·rw [y92q (fun j _=>hfalse j)]
theorem draw_sound {wo : World} (hΓ : TabOk P Γ) (hΔ : DelOk P wo Δ) (hm : P.follows .mixedOrders = true) : DrawSound P wo Γ Δ :=
 fun hwo hdst hok hR hf h hQ=>wp_region_any hm (draw_any hΓ hΔ hwo hdst hok hR hf h hQ)
end
end Go.Ev
end
section
namespace Go.Ev
open Go.RowKit (Below)
section
variable {P : Program} {w0 : Base} {G0 : Nat → Prop} {N : Nat} {Γ : Tab} {Δ : List (Nat × Con)} {A : Ann} {m : St} {e : Env} {tm : Array Value}
theorem startArg_sound {a : AT} {x : a.den} {v : Value} {s : Nat} {bl rest : List Nat} (h : ArgG m.w m.G m.H a x v bl) (hs : tm[s]? = some v) (hc : Cur w0 G0 N m e tm (bl ++ rest)) :
  ∃ m',Grow m m' ∧ Cur w0 G0 N m' (startArg e s a x) tm rest:=by
 cases a with
 | val t =>
  obtain ⟨rfl,cs,hv,ha⟩:=h
  exact ⟨m, .refl m,hc.slot hs (sv_ofTy hv ha)⟩
 | srt Ts=>exact h.elim
 | ptr t =>
  obtain ⟨rfl,b,o,cs,e1,hb,hcl,hv⟩:=h
  exact ⟨m, .refl m,hc.slot hs (sv:=.one (.el t x 0)) ⟨b,o,cs,by simpa using e1,hb,hcl,hv⟩⟩
 | clo f ts =>
  obtain ⟨rfl,cv,e1,hcp⟩:=h
  exact ⟨m, .refl m,hc.slot hs (sv:=.one (.clo f (startCaps ts x))) ⟨cv,e1,capsH_cp ts x cv hcp⟩⟩
 | io t =>
  obtain ⟨cs,ha,hv,hi⟩:=h
  obtain ⟨m',g,hc',r⟩:=hc.openT hv hi
  exact ⟨m',g,hc'.slot hs (svOf_sv r ha)⟩
 | own t =>
  obtain ⟨cs,ha,hv,hi⟩:=h
  obtain ⟨m',g,hc',r⟩:=hc.openT hv hi
  exact ⟨m',g,hc'.slot hs (svOf_sv r ha)⟩
 | var t =>
  obtain ⟨b,cs,T,bl',rfl,hh,hv,hi,rfl⟩:=h
  rw [List.append_assoc] at hc
  obtain ⟨m1,g1,hc1,r1⟩:=hc.openT hv hi
  obtain ⟨m2,g2,hc2,l2⟩:=hc1.var (T:=T) (by rw [g1.w]; exact hh) r1
  exact ⟨m2,g1.trans g2,hc2.slot hs (sv:=.one (.loc _ 0)) l2⟩
theorem startArgs_sound : ∀ (ats : List AT) (x : ATs.den ats) (l : List Value) (s : Nat) (m : St) (e : Env) (bl rest : List Nat),ArgsG m.w m.G m.H ats x l bl → (∀ i v,l[i]? = some v → tm[s + i]? = some v) → Cur w0 G0 N m e tm (bl ++ rest) →
  ∃ m',Grow m m' ∧ Cur w0 G0 N m' (startArgs e s ats x) tm rest
 | [],x,l,s,m,e,bl,rest,⟨_,h⟩,ht,hc=>by subst h; exact ⟨m, .refl m,hc⟩
 | a :: r,x,[],s,m,e,bl,rest,h,ht,hc=>by simp [ArgsG] at h
 | a :: r,x,v :: l,s,m,e,bl,rest,⟨b1,b2,e1,h1,h2⟩,ht,hc=>by
  subst e1
  rw [List.append_assoc] at hc
  obtain ⟨m1,g1,c1⟩:=startArg_sound h1 (ht 0 v rfl) hc
  obtain ⟨m2,g2,c2⟩:=startArgs_sound r x.2 l (s + 1) m1 _ b2 rest (by rw [g1.w,g1.G,g1.H]; exact h2) (fun i u hu=>by
   have:=ht (i + 1) u (by simpa using hu)
   rwa [show s + 1 + i = s + (i + 1) from by omega]) c1
  exact ⟨m2,g1.trans g2,c2⟩
def resRun (tm : Array Value) : ResultVar → Sem Value
 | .tmp t=>pure (tm.getD t undef)
 | .cell a t=>do loadVar t (← asAddr (tm.getD a undef))
theorem results_eq (fn : Func) (tm : Array Value) : results fn tm = (do
  let vs ← fn.results.mapM (resRun tm)
  pure (if h : vs.size = 1 then vs[0] else .tuple vs)):=by
 unfold results
 congr 1
theorem run_mapM : ∀ (rs : List ResultVar) (l : List Value) (w : World),R2 (fun r v=>(resRun tm r).run P w = .ok v w) rs l → (rs.mapM (resRun tm)).run P w = .ok l w
 | [],[],w,_=>by simp
 | r :: rs,v :: l,w,⟨h1,h2⟩=>by
  have ih:=run_mapM rs l w h2
  simp only [List.mapM_cons,Sem.run_bind,h1,Result.andThen_ok,ih,Sem.run_pure]
 | [],_ :: _,w,h=>by simp [R2] at h
 | _ :: _,[],w,h=>by simp [R2] at h
theorem results_run (fn : Func) {l : List Value} {w : World} (h : R2 (fun r v=>(resRun tm r).run P w = .ok v w) fn.results.toList l) : (results fn tm).run P w = .ok (asRes l) w:=by
 have h1:=run_mapM _ _ w h
 rw [results_eq,Array.mapM_eq_mapM_toList]
 simp only [Sem.run_bind,Sem.run_map,h1,Sem.run_pure,Result.andThen_ok]
 match l with
 | []=>simp [asRes]
 | [v]=>simp [asRes]
 | a :: b :: r=>simp [asRes]
def FinOk (P : Program) (w : World) (G : Nat → Prop) (tm : Array Value) (p : Sigma Ty.den) (v : Value) (bl : List Nat) : Fyn → Prop
 | .res r=>(resRun tm r).run P w = .ok v w ∧ Own1 w G p v bl
 | .argv s=>tm[s]? = some v ∧ OutG w G (.var p.1) p v bl
 | .argi s=>tm[s]? = some v ∧ OutG w G (.io p.1) p v bl
def FinAll (P : Program) (w : World) (G : Nat → Prop) (tm : Array Value) : List (Sigma Ty.den) → List Fyn → List Value → List Nat → Prop
 | [],[],l,bl=>l = [] ∧ bl = []
 | p :: ps,f :: fs,v :: l,bl=>∃ b1 b2,bl = b1 ++ b2 ∧ FinOk P w G tm p v b1 f ∧ FinAll P w G tm ps fs l b2
 | _,_,_,_=>False
theorem finVar_sound {Gr : Nat → Prop} {ov : List (Nat × Obj)} (hk : Tk m e.objs ov false Gr) {t : Ty} {id : Nat} {vs : List V} {x : t.den} (hf : find e.objs id = some (.var vs)) (hn : (idsT t vs ++ [id]).Nodup) (h : takeT false e.objs ov t vs = some x) :
  ∃ cs T bl,m.w.heap[m.β id]? = some (.cells (List.toArray cs) T (0,0)) ∧ Val m.w Gr t x cs ∧ Inn m.w Gr t x cs bl ∧ (bl ++ [m.β id]).Nodup ∧ ∀ b ∈ bl ++ [m.β id],∃ i ∈ idsT t vs ++ [id],blk e.objs m i b:=by
 have hnd:=List.nodup_append.1 hn
 obtain ⟨cs,T,hh,hr⟩:=hk.ho id _ hf
 obtain ⟨hval,bl,h3,h4,h5⟩:=takeT_sound hk hnd.1 h hr
 have hβ : blk e.objs m id (m.β id):=by unfold blk; rw [hf]
 refine ⟨cs,T,bl,hh,hval,h3,List.nodup_append.2 ⟨h4,by simp,fun p hp q hq e1=>?_⟩,fun b hb=>?_⟩
 ·subst e1
  simp only [List.mem_singleton] at hq
  subst hq
  obtain ⟨i,hi,hb⟩:=h5 _ hp
  exact hnd.2.2 i hi id (by simp) (hk.inj i id _ hb hβ)
 ·rcases List.mem_append.1 hb with hb | hb
  ·obtain ⟨i,hi,hb⟩:=h5 _ hb
   exact ⟨i,List.mem_append_left _ hi,hb⟩
  ·simp only [List.mem_singleton] at hb
   subst hb
   exact ⟨id,by simp,hβ⟩
theorem resOf1_sound {Gr : Nat → Prop} {ov : List (Nat × Obj)} (hΓ : TabOk P Γ) (hk : Tk m e.objs ov false Gr) (hR : Rel w0 G0 N [] m e tm) {t : Ty} {f : Fyn} {x : t.den} (hn : (finIds e t f).Nodup) (h : resOf1 Γ e.objs ov e t f = some x) :
  ∃ v bl,FinOk P m.w Gr tm ⟨t,x⟩ v bl f ∧ bl.Nodup ∧ ∀ b ∈ bl,∃ i ∈ finIds e t f,blk e.objs m i b:=by
 cases f with
 | res r =>
  cases r with
  | tmp s =>
   simp only [resOf1] at h
   cases hs : e.get s with
   | none=>simp [hs] at h
   | some sv =>
    simp only [hs] at h
    simp only [finIds,finSlot,finVar,hs] at hn ⊢
    obtain ⟨v,hv,hsv⟩:=hR.slots s sv hs
    obtain ⟨cs,h1,h2,bl,h3,h4,h5⟩:=y83q hk hn h hsv
    exact ⟨v,bl,⟨by simp [resRun,Array.getD_eq_getD_getElem?,hv],cs,h1,h2,h3⟩,h4,h5⟩
  | cell s T =>
   simp only [resOf1] at h
   cases hf : find Γ T with
   | none=>simp [hf] at h
   | some ti =>
    cases hs : e.get s with
    | none=>simp [hf,hs] at h
    | some sv =>
     obtain ⟨v,hv,hsv⟩:=hR.slots s sv hs
     cases sv with
     | one y =>
      cases y with
      | loc id off =>
       cases off with
       | succ=>simp [hf,hs] at h
       | zero =>
        simp only [hf,hs] at h
        cases ht : tyEq ti.ty.era t.era with
        | false=>simp [ht] at h
        | true =>
         cases ho : find e.objs id with
         | none=>simp [ht,ho] at h
         | some o =>
          cases o with
          | var vs =>
           simp only [ht,ho] at h
           have ho2 : e.obj id = some (.var vs):=ho
           simp only [finIds,finSlot,finVar,hs,ho2] at hn ⊢
           obtain ⟨cs,U,bl,hh,hval,hin,hnd,hb⟩:=finVar_sound hk ho hn h
           have hsz : ti.ty.size = t.size:=by rw [← size_era ti.ty,← size_era t,y64q ht]
           have hag : ti.ty.isAgg = t.isAgg:=by
            have key : ∀ u : Ty,u.era.isAgg = u.isAgg:=fun u=>by cases u <;> rfl
            rw [← key ti.ty,← key t,y64q ht]
           obtain ⟨_,e1⟩:=hsv
           obtain ⟨z,g1,g2⟩:=run_load' (hΓ T ti hf) (cells_of_heap hh) (by rw [hsz]; exact hval.length)
           have hnd':=List.nodup_append.1 hnd
           refine ⟨z,bl,⟨?_,cs, ?_,hval,hin⟩,hnd'.1,fun b hm=>hb b (List.mem_append_left _ hm)⟩
           ·rw [← g1]
            simp [resRun,Array.getD_eq_getD_getElem?,hv,e1,asAddr,Instr.loadAt,Instr.sureAddr]
           ·unfold AsVal at g2 ⊢
            rw [← hag]; exact g2
          | _=>simp [ht,ho] at h
      | _=>simp [hf,hs] at h
     | _=>simp [hf,hs] at h
 | argv s =>
  simp only [resOf1] at h
  cases hs : e.get s with
  | none=>simp [hs] at h
  | some sv =>
   obtain ⟨v,hv,hsv⟩:=hR.slots s sv hs
   cases sv with
   | one y =>
    cases y with
    | loc id off =>
     cases off with
     | succ=>simp [hs] at h
     | zero =>
      simp only [hs] at h
      cases ho : find e.objs id with
      | none=>simp [ho] at h
      | some o =>
       cases o with
       | var vs =>
        simp only [ho] at h
        have ho2 : e.obj id = some (.var vs):=ho
        simp only [finIds,finSlot,finVar,hs,ho2] at hn ⊢
        obtain ⟨cs,U,bl,hh,hval,hin,hnd,hb⟩:=finVar_sound hk ho hn h
        exact ⟨v,bl ++ [m.β id],⟨hv,rfl,m.β id,cs,U,bl,hsv.2,hh,hval,hin,rfl⟩,hnd,hb⟩
       | _=>simp [ho] at h
    | _=>simp [hs] at h
   | _=>simp [hs] at h
 | argi s =>
  simp only [resOf1] at h
  cases hs : e.get s with
  | none=>simp [hs] at h
  | some sv =>
   simp only [hs] at h
   simp only [finIds,finSlot,finVar,hs] at hn ⊢
   obtain ⟨v,hv,hsv⟩:=hR.slots s sv hs
   obtain ⟨cs,h1,h2,bl,h3,h4,h5⟩:=y83q hk hn h hsv
   exact ⟨v,bl,⟨hv,rfl,cs,h1,h2,h3⟩,h4,h5⟩
theorem finishL_sound {Gr : Nat → Prop} {ov : List (Nat × Obj)} (hΓ : TabOk P Γ) (hk : Tk m e.objs ov false Gr) (hR : Rel w0 G0 N [] m e tm) : ∀ (res : List Ty) (fs : List Fyn) (x : den1 res),(finAll e res fs).Nodup → finishL Γ e.objs ov e res fs = some x →
  ∃ l bl,FinAll P m.w Gr tm (parts res x) fs l bl ∧ bl.Nodup ∧ ∀ b ∈ bl,∃ i ∈ finAll e res fs,blk e.objs m i b
 | [],[],x,_,h=>⟨[],[],⟨rfl,rfl⟩,List.nodup_nil,fun b hb=>by simp at hb⟩
 | [t],[r],x,hn,h=>by
  simp only [finishL] at h
  simp only [finAll,List.append_nil] at hn ⊢
  obtain ⟨v,bl,h1,h2,h3⟩:=resOf1_sound hΓ hk hR hn h
  exact ⟨[v],bl,⟨bl,[],by simp,h1,rfl,rfl⟩,h2,h3⟩
 | t :: u :: l,r :: rs,x,hn,h=>by
  simp only [finishL] at h
  have hn' : (finIds e t r ++ finAll e (u :: l) rs).Nodup:=hn
  have hnd:=List.nodup_append.1 hn'
  cases h1 : resOf1 Γ e.objs ov e t r with
  | none=>simp [h1] at h
  | some y =>
   cases h2 : finishL Γ e.objs ov e (u :: l) rs with
   | none=>simp [h1,h2] at h
   | some z =>
    simp only [h1,h2,Option.some.injEq] at h
    subst h
    obtain ⟨v,b1,g1,g2,g3⟩:=resOf1_sound hΓ hk hR hnd.1 h1
    obtain ⟨vs,b2,k1,k2,k3⟩:=finishL_sound hΓ hk hR (u :: l) rs z hnd.2.1 h2
    refine ⟨v :: vs,b1 ++ b2,⟨b1,b2,rfl,g1,k1⟩,List.nodup_append.2 ⟨g2,k2,fun p hp q hq e1=>?_⟩,fun b hb=>?_⟩
    ·subst e1
     obtain ⟨i,hi,q1⟩:=g3 p hp
     obtain ⟨j,hj,q2⟩:=k3 p hq
     exact hnd.2.2 i hi j hj (hk.inj i j p q1 q2)
    ·rcases List.mem_append.1 hb with hb | hb
     ·obtain ⟨i,hi,q⟩:=g3 b hb
      exact ⟨i,List.mem_append_left _ hi,q⟩
     ·obtain ⟨i,hi,q⟩:=k3 b hb
      exact ⟨i,List.mem_append_right _ hi,q⟩
 | [],_ :: _,x,_,h=>by simp [finishL] at h
 | [_],[],x,_,h=>by simp [finishL] at h
 | [_],_ :: _ :: _,x,_,h=>by simp [finishL] at h
 | _ :: _ :: _,[],x,_,h=>by simp [finishL] at h
theorem finish_sound (hΓ : TabOk P Γ) (hR : Rel w0 G0 N [] m e tm) {res : List Ty} {fs : List Fyn} {x : den1 res} (h : finish Γ e res fs = some x) :
  ∃ (G' : Nat → Prop) (l : List Value) (bl : List Nat),FinAll P m.w G' tm (parts res x) fs l bl ∧ bl.Nodup ∧ (∀ b,G' b → (G0 b ∨ Mine w0 b) ∧ b < m.w.heap.size) ∧ ∀ b ∈ bl,¬ G' b ∧ b < m.w.heap.size ∧ Mine w0 b:=by
 unfold finish at h
 cases hn : nodupN (finAll e res fs) with
 | false=>simp [hn] at h
 | true =>
  simp only [hn] at h
  obtain ⟨hk,_,hout⟩:=rel_split hR (finAll e res fs)
  obtain ⟨l,bl,h1,h2,h3⟩:=finishL_sound hΓ hk hR res fs x (y82q _ hn) h
  refine ⟨_,l,bl,h1,h2,fun b hb=>?_,fun b hb=>?_⟩
  ·rcases hb with hb | hb
   ·exact ⟨hR.ok.subG b hb,hR.ok.liveG b hb⟩
   ·exact ⟨.inr (rel_splitG hR _ hb).2,(rel_splitG hR _ hb).1⟩
  ·obtain ⟨i,hi,hbi⟩:=h3 b hb
   obtain ⟨o1,_,o3,o4⟩:=hout i b hi hbi
   exact ⟨o1,o3,o4⟩
theorem FinAll.split {w : World} {G : Nat → Prop} : ∀ {ps : List (Sigma Ty.den)} {f1 f2 : List Fyn} {l : List Value} {bl : List Nat},FinAll P w G tm ps (f1 ++ f2) l bl → ∃ l1 l2 b1 b2,l = l1 ++ l2 ∧ bl = b1 ++ b2 ∧ FinAll P w G tm (ps.take f1.length) f1 l1 b1 ∧ FinAll P w G tm (ps.drop f1.length) f2 l2 b2
 | ps,[],f2,l,bl,h=>⟨[],l,[],bl,rfl,rfl,by simp [FinAll],by simpa using h⟩
 | [],f :: f1,f2,l,bl,h=>by simp [FinAll] at h
 | p :: ps,f :: f1,f2,[],bl,h=>by simp [FinAll] at h
 | p :: ps,f :: f1,f2,v :: l,bl,⟨c1,c2,e,h1,h2⟩=>by
  subst e
  obtain ⟨l1,l2,b1,b2,rfl,rfl,k1,k2⟩:=FinAll.split h2
  exact ⟨v :: l1,l2,c1 ++ b1,b2,rfl,by simp,⟨c1,b1,rfl,h1,k1⟩,k2⟩
theorem FinAll.res {w : World} {G : Nat → Prop} : ∀ {ps : List (Sigma Ty.den)} {rs : List ResultVar} {l : List Value} {bl : List Nat},FinAll P w G tm ps (rs.map .res) l bl → R2 (fun r v=>(resRun tm r).run P w = .ok v w) rs l ∧ ResG w G ps l bl
 | [],[],l,bl,⟨h1,h2⟩=>by subst h1; subst h2; exact ⟨trivial,rfl,rfl⟩
 | p :: ps,r :: rs,v :: l,bl,⟨b1,b2,e,⟨h1,h2⟩,h3⟩=>by
  obtain ⟨k1,k2⟩:=FinAll.res h3
  exact ⟨⟨h1,k1⟩,b1,b2,e,h2,k2⟩
 | [],_ :: _,l,bl,h=>by simp [FinAll] at h
 | _ :: _,[],l,bl,h=>by simp [FinAll] at h
 | _ :: _,_ :: _,[],bl,h=>by simp [FinAll] at h
theorem tysEq_eq : ∀ {a b : List Ty},tysEq a b = true → a = b
 | [],[],_=>rfl
 | t :: r,u :: s,h=>by
  simp only [tysEq,Bool.and_eq_true] at h
  rw [y64q h.1,tysEq_eq h.2]
 | [],_ :: _,h=>by simp [tysEq] at h
 | _ :: _,[],h=>by simp [tysEq] at h
theorem FinAll.outs {w : World} {G : Nat → Prop} : ∀ {ats : List AT} {s : Nat} {ps : List (Sigma Ty.den)} {l args : List Value} {bl : List Nat},FinAll P w G tm ps (y104q s ats) l bl → ps.map (·.1) = outTys ats → (∀ i v,i ∈ y79q s ats → args[i - s]? = some v → tm[i]? = some v) → args.length = ats.length → OutsG w G ats args ps bl
 | [],s,ps,l,args,bl,h,ht,hp,hl=>by
  cases args with
  | cons=>simp at hl
  | nil =>
   cases ps with
   | nil=>exact ⟨rfl,h.2⟩
   | cons=>simp [y104q,FinAll] at h
 | a :: r,s,ps,l,[],bl,h,ht,hp,hl=>by simp at hl
 | a :: r,s,ps,l,u :: args,bl,h,ht,hp,hl=>by
  have hl' : args.length = r.length:=by simpa using hl
  have skip : isIo a = false → y104q s (a :: r) = y104q (s + 1) r → outTys (a :: r) = outTys r → y79q s (a :: r) = y79q (s + 1) r → OutsG w G (a :: r) (u :: args) ps bl:=by
   intro h0 h1 h2 h3
   simp only [OutsG,h0]
   rw [h1] at h
   rw [h2] at ht
   rw [h3] at hp
   refine FinAll.outs h ht (fun i v hi hv=>hp i v hi ?_) hl'
   have hge : ∀ (ats : List AT) (s i : Nat),i ∈ y79q s ats → s ≤ i:=by
    intro ats
    induction ats with
    | nil=>intro s i hi; simp [y79q] at hi
    | cons a r ih =>
     intro s i hi
     cases a <;> simp only [y79q,List.mem_cons] at hi <;> first
      | (have:=ih (s + 1) i hi; omega)
      | (rcases hi with hi | hi <;> first | omega | (have:=ih (s + 1) i hi; omega))
   have:=hge _ _ _ hi
   rw [show i - s = (i - (s + 1)) + 1 from by omega]
   simpa using hv
  have take : ∀ (t : Ty) (f : Fyn),isIo a = true → y104q s (a :: r) = f :: y104q (s + 1) r → outTys (a :: r) = t :: outTys r → y79q s (a :: r) = s :: y79q (s + 1) r →
    (∀ p v b,p.1 = t → FinOk P w G tm p v b f → tm[s]? = some v ∧ OutG w G a p v b) → OutsG w G (a :: r) (u :: args) ps bl:=by
   intro t f h0 h1 h2 h3 h4
   simp only [OutsG,h0]
   rw [h1] at h
   rw [h2] at ht
   rw [h3] at hp
   cases ps with
   | nil=>simp [FinAll] at h
   | cons p ps =>
    cases l with
    | nil=>simp [FinAll] at h
    | cons v l =>
     obtain ⟨b1,b2,e,k1,k2⟩:=h
     simp only [List.map_cons,List.cons.injEq] at ht
     obtain ⟨q1,q2⟩:=h4 p v b1 ht.1 k1
     have:=hp s u (by simp) (by simp)
     rw [q1] at this
     obtain rfl:=Option.some.inj this
     refine ⟨p,ps,b1,b2,rfl,e,q2,FinAll.outs k2 ht.2 (fun i v hi hv=>hp i v (List.mem_cons_of_mem _ hi) ?_) hl'⟩
     have hge : ∀ (ats : List AT) (s i : Nat),i ∈ y79q s ats → s ≤ i:=by
      intro ats
      induction ats with
      | nil=>intro s i hi; simp [y79q] at hi
      | cons a r ih =>
       intro s i hi
       cases a <;> simp only [y79q,List.mem_cons] at hi <;> first
        | (have:=ih (s + 1) i hi; omega)
        | (rcases hi with hi | hi <;> first | omega | (have:=ih (s + 1) i hi; omega))
     have:=hge _ _ _ hi
     rw [show i - s = (i - (s + 1)) + 1 from by omega]
     simpa using hv
  cases a with
  | var t=>exact take t (.argv s) rfl rfl rfl rfl fun p v b hp hf=>by subst hp; exact hf
  | io t=>exact take t (.argi s) rfl rfl rfl rfl fun p v b hp hf=>by subst hp; exact hf
  | _=>exact skip rfl rfl rfl rfl
theorem argsG_length : ∀ {ats : List AT} {x : ATs.den ats} {l : List Value} {w : World} {G H : Nat → Prop} {bl : List Nat},ArgsG w G H ats x l bl → l.length = ats.length
 | [],x,l,w,G,H,bl,⟨h,_⟩=>by subst h; rfl
 | a :: r,x,[],w,G,H,bl,h=>by simp [ArgsG] at h
 | a :: r,x,v :: l,w,G,H,bl,⟨_,_,_,_,h⟩=>by simp [argsG_length h]
theorem fn_core {B : Base} (hΓ : TabOk P Γ) (hΔ : DelOk P B.o Δ) (hD : DrawSound P B.o Γ Δ) {f : Nat} {fn : Func} (hf : P.funcs[f]? = some fn) {ats : List AT} {res : List Ty} (hok : (match fn.body with
   | some b=>y45q B.ps fn.ntmps b && Nat.ble ats.length fn.ntmps
   | none=>false) = true) {k : Nat} {x : ATs.den ats} {r : den1 res} (hr : evFn Γ Δ A fn ats res k x = some r) {G H : Nat → Prop} {args : List Value} {bl : List Nat} (hargs : ArgsG B.w G H ats x args bl) (hnd : bl.Nodup)
  (hbl : ∀ b ∈ bl,¬ G b ∧ ¬ H b ∧ b < B.w.heap.size ∧ Mine B b) (hG : ∀ b,G b → b < B.w.heap.size) (hH : ∀ b,H b → b < B.w.heap.size) (hGH : ∀ b,G b → H b) (hB : Kept B B.w) (hpin : ∀ i v,(i,v) ∈ B.pins → args[i]? = some v) :
  Calls P f args.toArray B.w fun en w'=>∃ (G' : Nat → Prop) (l : List Value) (bl' : List Nat) (tm' : Array Value),en = .returned (asRes (l.take fn.results.toList.length)) ∧ Kept B w' ∧ (∀ i v,(i,v) ∈ B.pins → tm'[i]? = some v) ∧ FinAll P w' G' tm' (parts res r) (finsOf fn.results.toList ats) l bl' ∧ bl'.Nodup ∧
   (∀ b,G' b → (G b ∨ Mine B b) ∧ b < w'.heap.size) ∧ ∀ b ∈ bl',¬ G' b ∧ b < w'.heap.size ∧ Mine B b:=by
 unfold evFn at hr
 cases hb : fn.body with
 | none=>simp [hb] at hr
 | some b =>
  rw [hb] at hr hok
  simp only [Bool.and_eq_true] at hr hok
  obtain ⟨hdst,hn⟩:=hok
  have hn:=Nat.le_of_ble_eq_true hn
  have hlen:=argsG_length hargs
  refine calls_of_wp hf hb ?_
  generalize htm : args.toArray ++ Array.replicate (fn.ntmps - args.toArray.size) undef = tm
  have hsize : tm.size = fn.ntmps:=by rw [← htm]; simp; omega
  have hget : ∀ i v,args[i]? = some v → tm[i]? = some v:=fun i v hv=>by
   rw [← htm]
   have hi : i < args.length:=(List.getElem?_eq_some_iff.1 hv).1
   rw [Array.getElem?_append_left (by simpa using hi)]
   simpa using hv
  let m : St:=⟨B.w,G,H,fun _=>0,fun _=>.bool true,fun _=>False,fun _=>[],fun _ _=>.bool true⟩
  have hok0 : ObjsOk B G m []:=⟨hB,fun i o hf=>by simp [find] at hf,fun i j b hb=>by simp [blk,find] at hb,fun i b hb=>by simp [blk,find] at hb,hG,hH,fun b hb=>.inl hb,hGH⟩
  have hR0 : Rel B G fn.ntmps [] m ⟨[],[],0⟩ tm:=⟨hok0,fun i o hf=>by simp [find] at hf,⟨hsize,fun i v hi=>hget i v (hpin i v hi)⟩,fun t sv hf=>by simp [find] at hf⟩
  have hc0 : Cur B G fn.ntmps m ⟨[],[],0⟩ tm (bl ++ []):=by
   rw [List.append_nil]
   exact ⟨hR0,fun i hi=>hi.elim,fun i b hb=>by simp [blk,find] at hb,hnd,hbl⟩
  obtain ⟨m1,g1,c1⟩:=startArgs_sound ats x args 0 m ⟨[],[],0⟩ bl [] hargs (fun i v hv=>by rw [Nat.zero_add]; exact hget i v hv) hc0
  have hw1 : m1.w = B.w:=g1.w
  rw [← hw1]
  refine wp_mono (y97q (w0:=B) hΓ hΔ hD b hdst k some _ _ r m1 tm c1.rel c1.fresh hr) ?_
  intro ex a w' hp
  have fini : ∀ (m' : St) (e' : Env),Rel B G fn.ntmps [] m' e' a.tmps → finish Γ e' res (finsOf fn.results.toList ats) = some r → ∃ v,(results fn a.tmps).run P m'.w = .ok v m'.w ∧
    ∃ (G' : Nat → Prop) (l : List Value) (bl' : List Nat) (tm' : Array Value),Ending.returned v = .returned (asRes (l.take fn.results.toList.length)) ∧ Kept B m'.w ∧ (∀ i v,(i,v) ∈ B.pins → tm'[i]? = some v) ∧ FinAll P m'.w G' tm' (parts res r) (finsOf fn.results.toList ats) l bl' ∧ bl'.Nodup ∧
     (∀ b,G' b → (G b ∨ Mine B b) ∧ b < m'.w.heap.size) ∧ ∀ b ∈ bl',¬ G' b ∧ b < m'.w.heap.size ∧ Mine B b:=by
   intro m' e' hR' hfin
   obtain ⟨G',l,bl',q1,q2,q3,q4⟩:=finish_sound hΓ hR' hfin
   obtain ⟨l1,l2,b1,b2,e1,e2,s1,_⟩:=FinAll.split (f1:=fn.results.toList.map .res) (f2:=y104q 0 ats) q1
   obtain ⟨u1,_⟩:=FinAll.res s1
   have hl1 : l.take fn.results.toList.length = l1:=by
    rw [e1,← show l1.length = fn.results.toList.length from u1.length.symm]
    simp
   exact ⟨asRes l1,results_run fn u1,G',l,bl',a.tmps,by rw [hl1],hR'.ok.base,hR'.tms.2,q1,q2,q3,q4⟩
  cases ex with
  | normal =>
   obtain ⟨m',e',rfl,hd',hR',_,hK⟩:=hp
   exact ⟨hd',fini m' e' hR' hK⟩
  | ret =>
   obtain ⟨m',e',z,rfl,hd',hR',hz,he⟩:=hp
   obtain rfl:=Option.some.inj he
   exact ⟨hd',fini m' e' hR' hz⟩
  | exit i =>
   obtain ⟨m',e',_,_,_,_,hK⟩:=hp
   simp at hK
  | _=>exact hp.elim
theorem args_G {w : World} {G H : Nat → Prop} : ∀ {ats : List AT} {x : ATs.den ats} {l : List Value},ArgsH w G H ats x l → ArgsG w G H ats x l []
 | [],x,l,h=>⟨h,rfl⟩
 | a :: r,x,[],h=>by simp [ArgsH] at h
 | a :: r,x,v :: l,⟨h1,h2⟩=>by
  refine ⟨[],[],rfl, ?_,args_G h2⟩
  cases a <;> first | exact ⟨rfl,h1⟩ | exact h1.elim
theorem ress_of {w : World} {G : Nat → Prop} : ∀ {ts : List Ty} {x : den1 ts} {l : List Value} {bl : List Nat},ResG w G (parts ts x) l bl → Ress w G ts x l
 | [],x,l,bl,⟨h,_⟩=>h
 | [t],x,[v],bl,⟨b1,b2,e,⟨cs,h1,h2,h3⟩,h4⟩=>⟨v,rfl,cs,h2,h1⟩
 | [t],x,[],bl,h=>h.elim
 | [t],x,v :: u :: l,bl,⟨b1,b2,e,_,h4,_⟩=>by simp at h4
 | t :: u :: r,x,[],bl,h=>h.elim
 | t :: u :: r,x,v :: l,bl,⟨b1,b2,e,⟨cs,h1,h2,h3⟩,h4⟩=>⟨v,l,rfl,⟨cs,h2,h1⟩,ress_of h4⟩
theorem hasIo_outs : ∀ {ats : List AT} {s : Nat},hasIo ats = false → y104q s ats = []
 | [],_,_=>rfl
 | a :: r,s,h=>by
  cases a <;> simp only [hasIo,Bool.true_eq_false] at h <;> simp only [y104q] <;> exact hasIo_outs h
theorem y9q {w0 : World} (hΓ : TabOk P Γ) (hΔ : DelOk P w0 Δ) (hD : ∀ {w : World},Below w0.heap.size w0 w → DrawSound P w Γ Δ) {f : Nat} {fn : Func} (hf : P.funcs[f]? = some fn) {c : Con} (hok : (match fn.body with
   | some b=>y45q [] fn.ntmps b && Nat.ble c.args.length fn.ntmps
   | none=>false) = true) (heq : ∀ k x,c.fn k x = evFn Γ Δ A fn c.args c.res k x) (hno : hasIo c.args = false) : ConOk P w0 f c:=by
 intro k x r w G args hbw hG hr hargs
 rw [heq] at hr
 let B : Base:=⟨w,w,fun _=>False,[]⟩
 refine Calls.mono (fn_core (B:=B) (G:=G) (H:=fun b=>b < w.heap.size) hΓ (hΔ.later hbw) (hD hbw) hf hok hr (args_G hargs) List.nodup_nil (fun b hb=>by simp at hb) hG (fun _ h=>h) hG (.refl B (Below.refl _ _) (fun _ h=>h.elim)) (fun i v hi=>by simp [B] at hi)) ?_
 rintro en w' ⟨G',l,bl',tm',rfl,hk,_,hfin,_,hG',_⟩
 have hfs : finsOf fn.results.toList c.args = fn.results.toList.map .res:=by unfold finsOf; rw [hasIo_outs hno,List.append_nil]
 rw [hfs] at hfin
 obtain ⟨u1,u2⟩:=FinAll.res hfin
 have hl : l.take fn.results.toList.length = l:=by rw [u1.length]; simp
 rw [hl]
 refine ⟨l,rfl,hk.old, ?_⟩
 exact ress_of (ResG.grow (fun b hb=>by
  obtain ⟨h1,h2⟩:=hG' b hb
  rcases h1 with h | h | h
  ·exact .inl h
  ·exact .inr ⟨h,h2⟩
  ·exact h.elim) u2)
theorem parts_length : ∀ {ts : List Ty} {y : den1 ts},(parts ts y).map (·.1) = ts
 | [],_=>rfl
 | [t],_=>rfl
 | t :: u :: r,x=>by
  show t :: (parts (u :: r) x.2).map (·.1) = t :: u :: r
  rw [parts_length]
theorem argFins_length : ∀ {ats : List AT} {s : Nat},(y104q s ats).length = nIo ats
 | [],_=>rfl
 | a :: r,s=>by cases a <;> simp [y104q,nIo,isIo,argFins_length (ats:=r) (s:=s + 1)]
theorem FinAll.length {w : World} {G : Nat → Prop} : ∀ {ps : List (Sigma Ty.den)} {fs : List Fyn} {l : List Value} {bl : List Nat},FinAll P w G tm ps fs l bl → ps.length = fs.length
 | [],[],_,_,_=>rfl
 | _ :: _,_ :: _,_ :: _,_,⟨_,_,_,_,h⟩=>by simp [FinAll.length h]
 | _ :: _,_ :: _,[],_,h=>by simp [FinAll] at h
 | [],_ :: _,_,_,h=>by simp [FinAll] at h
 | _ :: _,[],_,_,h=>by simp [FinAll] at h
theorem y53q {w0 : World} (hΓ : TabOk P Γ) (hΔ : DelOk P w0 Δ) (hD : ∀ {w : World},Below w0.heap.size w0 w → DrawSound P w Γ Δ) {f : Nat} {fn : Func} (hf : P.funcs[f]? = some fn) {c : Con} (hok : (match fn.body with
   | some b=>y45q (y79q 0 c.args) fn.ntmps b && Nat.ble c.args.length fn.ntmps
   | none=>false) = true) (heq : ∀ k x,c.fn k x = evFn Γ Δ A fn c.args c.res k x) (hty : tysEq (dropN c.nres c.res) (outTys c.args) = true) : GenCon P w0 f c:=by
 intro k x r w G H args bl hbw hG hH hGH hargs hnd hbl hr
 rw [heq] at hr
 have hlen:=argsG_length hargs
 let B : Base:=⟨w,w0,fun b=>b ∈ bl,(y79q 0 c.args).filterMap fun i=>(args[i]?).map fun v=>(i,v)⟩
 have hps : ∀ i,i ∈ B.ps → i ∈ y79q 0 c.args:=fun i hi=>by
  obtain ⟨p,hp,rfl⟩:=List.mem_map.1 hi
  obtain ⟨j,hj,he⟩:=List.mem_filterMap.1 hp
  cases ha : args[j]? with
  | none=>rw [ha] at he; simp at he
  | some v =>
   rw [ha] at he
   simp only [Option.map_some,Option.some.injEq] at he
   subst he
   exact hj
 have hpin : ∀ i v,(i,v) ∈ B.pins → args[i]? = some v:=fun i v hi=>by
  obtain ⟨j,hj,he⟩:=List.mem_filterMap.1 hi
  cases ha : args[j]? with
  | none=>rw [ha] at he; simp at he
  | some u =>
   rw [ha] at he
   simp only [Option.map_some,Option.some.injEq,Prod.mk.injEq] at he
   obtain ⟨rfl,rfl⟩:=he
   exact ha
 have hpin2 : ∀ i v,i ∈ y79q 0 c.args → args[i]? = some v → (i,v) ∈ B.pins:=fun i v hi hv=>List.mem_filterMap.2 ⟨i,hi,by rw [hv]; rfl⟩
 have hok' : (match fn.body with
   | some b=>y45q B.ps fn.ntmps b && Nat.ble c.args.length fn.ntmps
   | none=>false) = true:=by
  cases hb : fn.body with
  | none=>rw [hb] at hok; simp at hok
  | some b =>
   rw [hb] at hok
   simp only [Bool.and_eq_true] at hok ⊢
   exact ⟨y61q hps b hok.1,hok.2⟩
 refine Calls.mono (fn_core (B:=B) (G:=G) (H:=H) hΓ hΔ (hD (Below.refl _ _)) hf hok' hr hargs hnd (fun b hb=>⟨(hbl b hb).1,(hbl b hb).2.1,(hbl b hb).2.2.1, .inr hb⟩) hG hH hGH (.refl B hbw fun b hb=>(hbl b hb).2.2.2) hpin) ?_
 rintro en w' ⟨G',l,bl',tm',rfl,hk,hpins,hfin,hnd',hG',hbl'⟩
 have hfl:=hfin.length
 obtain ⟨l1,l2,b1,b2,rfl,rfl,s1,s2⟩:=FinAll.split (f1:=fn.results.toList.map .res) (f2:=y104q 0 c.args) hfin
 obtain ⟨u1,u2⟩:=FinAll.res s1
 have hl1 : (l1 ++ l2).take fn.results.toList.length = l1:=by
  rw [show fn.results.toList.length = l1.length from u1.length]
  simp
 have hn : c.nres = fn.results.toList.length:=by
  have h1 : (parts c.res r).length = c.res.length:=by
   have:=congrArg List.length (parts_length (y:=r))
   simpa using this
  rw [h1] at hfl
  unfold finsOf at hfl
  rw [List.length_append,List.length_map,argFins_length] at hfl
  unfold Con.nres
  rw [y125q]
  omega
 rw [hl1]
 rw [List.length_map] at s2 u2
 refine ⟨l1,G',b1,b2,rfl,⟨hk.os,hk.tape,hk.output,hk.size,hk.block,hk.old,hk.oldM,hk.oldS⟩,fun b hb=>⟨(hG' b hb).1,(hG' b hb).2⟩, ?_, ?_,hnd',fun b hb=>⟨(hbl' b hb).1,(hbl' b hb).2.1,(hbl' b hb).2.2⟩⟩
 ·rw [takeN_eq,hn]; exact u2
 ·rw [y101q,hn]
  have hty':=tysEq_eq hty
  rw [y101q,hn] at hty'
  refine FinAll.outs s2 ?_ (fun i v hi hv=>hpins i v (hpin2 i v hi (by simpa using hv))) hlen
  rw [← hty',List.map_drop,parts_length]
end
end Go.Ev
end
section
namespace Go.Ev
section
variable {P : Program} {Γ : Tab} {Δ : List (Nat × Con)}
def Keeps (P : Program) (w0 : World) (f : Nat) (c : Con) : Prop:=(c.gen = false → ConOk P w0 f c) ∧ (c.gen = true → GenCon P w0 f c)
theorem Keeps.con {w0 : World} {f : Nat} {c : Con} (h : ConOk P w0 f c) (hg : c.gen = false) : Keeps P w0 f c:=⟨fun _=>h,fun q=>(by rw [hg] at q; cases q)⟩
theorem Keeps.gn {w0 : World} {f : Nat} {c : Con} (h : GenCon P w0 f c) (hg : c.gen = true) : Keeps P w0 f c:=⟨fun q=>(by rw [hg] at q; cases q),fun _=>h⟩
theorem DelOk.nil {w0 : World} : DelOk P w0 []:=fun f c h=>by simp at h
theorem DelOk.cons {w0 : World} {f : Nat} {c : Con} (h : Keeps P w0 f c) (he : Enters' P f) (hd : DelOk P w0 Δ) (hs : SrtCon P f c:=by exact True.intro) : DelOk P w0 ((f,c) :: Δ):=by
 intro g d hm
 rcases List.mem_cons.1 hm with e | e
 ·cases e; exact ⟨h.1,he,hs,h.2⟩
 ·exact hd g d e
theorem enters' {f : Nat} {fn : Func} (hf : P.funcs[f]? = some fn) (h : (!(fn.name == "runtime.NumGoroutine") && fn.body.isSome) = true) : Enters' P f := by
 intro args w
 simp only [Bool.and_eq_true,Bool.not_eq_true'] at h
 obtain ⟨h1,h2⟩:=h
 have h3 : fn.name ≠ "runtime.NumGoroutine" := by simpa using h1
 cases hb : fn.body with
 | none=>rw [hb] at h2; simp at h2
 | some b=>simp [callFunc,hf,h3,hb,mark]
theorem draws_of {w0 : World} (hΓ : TabOk P Γ) (hΔ : DelOk P w0 Δ) (hm : P.follows .mixedOrders = true) {w : World} (hb : Go.RowKit.Below w0.heap.size w0 w) : DrawSound P w Γ Δ:=draw_sound hΓ (hΔ.later hb) hm
theorem tab_of (h : tabOk P Γ Γ = true) : TabOk P Γ:=tabOk_ok h
theorem br_true {ρ : Type} (x y : Option ρ) : br true x y = x:=rfl
theorem y43q {ρ : Type} (x y : Option ρ) : br false x y = y:=rfl
theorem bnd_none {α ρ : Type} (f : α → Option ρ) : bnd none f = none:=rfl
theorem y8q {α ρ : Type} (y : α) (f : α → Option ρ) : bnd (some y) f = f y:=rfl
theorem chk_true {ρ : Type} (x : Option ρ) : chk true x = x:=rfl
theorem y70q {α ρ σ : Type} (y : α) (f : α → Option σ) (g : ρ → Option σ) : onSum (.inl y : α ⊕ ρ) f g = f y:=rfl
theorem onSum_inr {α ρ σ : Type} (z : ρ) (f : α → Option σ) (g : ρ → Option σ) : onSum (.inr z : α ⊕ ρ) f g = g z:=rfl
end
end Go.Ev
end
section
namespace Go.Ev
theorem y27q {x : Int} (h1 : -9223372036854775808 ≤ x) (h2 : x ≤ 9223372036854775807) : IntKind.i64.wrap x = x:=by
 rw [IntKind.wrap_i64]; omega
theorem br_if {ρ : Type} (p : Prop) [Decidable p] (x y : Option ρ) : br (decide p) x y = if p then x else y:=by
 by_cases h : p
 ·rw [if_pos h,decide_eq_true h]; rfl
 ·rw [if_neg h,decide_eq_false h]; rfl
theorem br_b {ρ : Type} (b : Bool) (x y : Option ρ) : br b x y = if b = true then x else y:=by cases b <;> rfl
theorem y2q {ρ : Type} {p : Prop} [Decidable p] (h : p) (x y : Option ρ) : br (decide p) x y = x:=by rw [br_if,if_pos h]
theorem y15q {ρ : Type} {p : Prop} [Decidable p] (h : ¬ p) (x y : Option ρ) : br (decide p) x y = y:=by rw [br_if,if_neg h]
def foldE {α S R X : Type} (g : Nat → α → S → S ⊕ R) (fin : S → X) (out : R → X) : List α → Nat → S → X
 | [],_,s=>fin s
 | x :: r,i,s=>match g i x s with
  | .inl s'=>foldE g fin out r (i + 1) s'
  | .inr r=>out r
theorem list_loop {α S R X : Type} (xs : List α) (z : α) (L : Nat → S → Int → Option X) (g : Nat → α → S → S ⊕ R) (fin : S → X) (out : R → X) (K : Nat) (I : Nat → S → Prop)
  (hstep : ∀ k (i : Nat) s,K ≤ k → i < xs.length → I i s → L (k + 1) s (i : Int) = (match g i (xs.getD i z) s with
   | .inl s'=>L k s' ((i + 1 : Nat) : Int)
   | .inr r=>some (out r)) ∧ ∀ s',g i (xs.getD i z) s = .inl s' → I (i + 1) s')
  (hend : ∀ k s,K ≤ k → I xs.length s → L (k + 1) s (xs.length : Int) = some (fin s)) :
  ∀ (n i : Nat) (s : S) (k : Nat),n + i = xs.length → K + n + 1 ≤ k → I i s → L k s (i : Int) = some (foldE g fin out (xs.drop i) i s)
 | 0,i,s,k,hn,hk,hI=>by
  obtain ⟨k,rfl⟩ : ∃ k',k = k' + 1:=⟨k - 1,by omega⟩
  have hi : i = xs.length:=by omega
  subst hi
  rw [hend k s (by omega) hI,List.drop_length]
  rfl
 | n + 1,i,s,k,hn,hk,hI=>by
  obtain ⟨k,rfl⟩ : ∃ k',k = k' + 1:=⟨k - 1,by omega⟩
  have hi : i < xs.length:=by omega
  obtain ⟨h1,h2⟩:=hstep k i s (by omega) hi hI
  have hd : xs.drop i = xs.getD i z :: xs.drop (i + 1):=by
   rw [List.drop_eq_getElem_cons hi]
   simp [List.getD_eq_getElem?_getD,hi]
  rw [h1,hd]
  simp only [foldE]
  cases hg : g i (xs.getD i z) s with
  | inl s' =>
   simp only
   exact list_loop xs z L g fin out K I hstep hend n (i + 1) s' k (by omega) (by omega) (h2 s' hg)
  | inr r=>rfl
theorem list_loop0 {α S R X : Type} {xs : List α} (z : α) {L : Nat → S → Int → Option X} (g : Nat → α → S → S ⊕ R) (fin : S → X) (out : R → X) (K : Nat) (I : Nat → S → Prop)
  (hstep : ∀ k (i : Nat) s,K ≤ k → i < xs.length → I i s → L (k + 1) s (i : Int) = (match g i (xs.getD i z) s with
   | .inl s'=>L k s' ((i + 1 : Nat) : Int)
   | .inr r=>some (out r)) ∧ ∀ s',g i (xs.getD i z) s = .inl s' → I (i + 1) s')
  (hend : ∀ k s,K ≤ k → I xs.length s → L (k + 1) s (xs.length : Int) = some (fin s)) {s : S} {k : Nat} (hk : K + xs.length + 1 ≤ k) (hI : I 0 s) : L k s 0 = some (foldE g fin out xs 0 s):=by
 have:=list_loop xs z L g fin out K I hstep hend xs.length 0 s k (by omega) hk hI
 simpa using this
end Go.Ev
end
section
namespace Go.Ev
def Lim {X : Type} (f : Nat → Option X) (v : Option X) : Prop:=∃ k0,∀ k,k0 ≤ k → f k = v
section
variable {X Y Z : Type}
theorem lim_const (v : Option X) : Lim (fun _=>v) v:=⟨0,fun _ _=>rfl⟩
theorem lim_bnd {m : Nat → Option Y} {M : Option Y} {f : Nat → Y → Option X} {F : Y → Option X} (h : Lim m M) (hf : ∀ y,Lim (fun k=>f k y) (F y)) : Lim (fun k=>bnd (m k) (fun y=>f k y)) (bnd M F):=by
 obtain ⟨k1,h1⟩:=h
 cases M with
 | none=>exact ⟨k1,fun k hk=>by simp only [h1 k hk]; rfl⟩
 | some y =>
  obtain ⟨k2,h2⟩:=hf y
  exact ⟨max k1 k2,fun k hk=>by simp only [h1 k (by omega)]; exact h2 k (by omega)⟩
theorem lim_br {b : Bool} {f g : Nat → Option X} {F G : Option X} (hf : Lim f F) (hg : Lim g G) : Lim (fun k=>br b (f k) (g k)) (br b F G):=by
 cases b
 ·exact hg
 ·exact hf
theorem lim_onSum {r : Y ⊕ Z} {f : Nat → Y → Option X} {F : Y → Option X} {g : Nat → Z → Option X} {G : Z → Option X} (hf : ∀ y,Lim (fun k=>f k y) (F y)) (hg : ∀ z,Lim (fun k=>g k z) (G z)) : Lim (fun k=>onSum r (fun y=>f k y) (fun z=>g k z)) (onSum r F G):=by
 cases r with
 | inl y=>exact hf y
 | inr z=>exact hg z
theorem lim_succ {f : Nat → Option X} {v : Option X} (h : Lim (fun k=>f (k + 1)) v) : Lim f v:=by
 obtain ⟨k0,hk⟩:=h
 refine ⟨k0 + 1,fun k h=>?_⟩
 obtain ⟨j,rfl⟩ : ∃ j,k = j + 1:=⟨k - 1,by omega⟩
 exact hk j (by omega)
theorem lim_eq {f g : Nat → Option X} {v : Option X} (h : Lim g v) (e : ∀ k,f k = g k) : Lim f v:=by
 obtain ⟨k0,hk⟩:=h
 exact ⟨k0,fun k hk'=>(e k).trans (hk k hk')⟩
theorem lim_some {f : Nat → Option X} {v : X} (h : Lim f (some v)) : ∃ k,f k = some v:=by
 obtain ⟨k0,hk⟩:=h
 exact ⟨k0,hk k0 (Nat.le_refl _)⟩
def forN {S : Type} (B : Int → S → (S → Option X) → Option X) (E : S → Option X) : Nat → Nat → S → Option X
 | 0,_,s=>E s
 | n + 1,i,s=>B (i : Int) s (forN B E n (i + 1))
theorem lim_for {S : Type} {L : Nat → S → Int → Option X} {B : Int → S → (S → Option X) → Option X} {E : S → Option X} (len : Nat) (hlen : len ≤ 4611686018427387904)
  (hB : ∀ (i : Nat) s,i < len → ∀ C : S → Option X,(∀ s,Lim (fun k=>L k s (IntKind.i64.wrap ((i : Int) + 1))) (C s)) → Lim (fun k=>L (k + 1) s (i : Int)) (B i s C)) (hE : ∀ s,Lim (fun k=>L (k + 1) s (len : Int)) (E s)) :
  ∀ (n i : Nat) (s : S),n + i = len → Lim (fun k=>L k s (i : Int)) (forN B E n i s)
 | 0,i,s,h=>by
  have : i = len:=by omega
  subst this
  exact lim_succ (hE s)
 | n + 1,i,s,h=>by
  refine lim_succ (hB i s (by omega) _ fun s'=>?_)
  have:=lim_for len hlen hB hE n (i + 1) s' (by omega)
  rw [y27q (by omega) (by omega)]
  exact this
theorem lim_for0 {S : Type} {L : Nat → S → Int → Option X} {B : Int → S → (S → Option X) → Option X} {E : S → Option X} (len : Nat) (hlen : len ≤ 4611686018427387904)
  (hB : ∀ (i : Nat) s,i < len → ∀ C : S → Option X,(∀ s,Lim (fun k=>L k s (IntKind.i64.wrap ((i : Int) + 1))) (C s)) → Lim (fun k=>L (k + 1) s (i : Int)) (B i s C)) (hE : ∀ s,Lim (fun k=>L (k + 1) s (len : Int)) (E s)) (s : S) :
  Lim (fun k=>L k s 0) (forN B E len 0 s):=lim_for len hlen hB hE len 0 s (by omega)
theorem lim_br' {b : Bool} {f g : Nat → Option X} {F G : Option X} (hf : b = true → Lim f F) (hg : b = false → Lim g G) : Lim (fun k=>br b (f k) (g k)) (br b F G):=by
 cases b
 ·exact hg rfl
 ·exact hf rfl
def forF {S : Type} (B : Int → S → (S → Option X) → Option X) : Nat → Nat → S → Option X
 | 0,_,_=>none
 | n + 1,i,s=>B (i : Int) s (forF B n (i + 1))
theorem lim_forF {S : Type} {L : Nat → S → Int → Option X} {B : Int → S → (S → Option X) → Option X} (bound : Int) (hb : bound ≤ 4611686018427387904)
  (hB : ∀ (i : Nat) s,∀ C : S → Option X,(∀ s,(i : Int) < bound → Lim (fun k=>L k s (IntKind.i64.wrap ((i : Int) + 1))) (C s)) → Lim (fun k=>L (k + 1) s (i : Int)) (B i s C)) :
  ∀ (n i : Nat) (s : S),0 < n → bound - i < n → Lim (fun k=>L k s (i : Int)) (forF B n i s)
 | 0,i,s,h,_=>absurd h (by omega)
 | n + 1,i,s,_,h=>by
  refine lim_succ (hB i s _ fun s' hi=>?_)
  rw [y27q (by omega) (by omega)]
  exact lim_forF bound hb hB n (i + 1) s' (by omega) (by omega)
theorem lim_forF0 {S : Type} {L : Nat → S → Int → Option X} {B : Int → S → (S → Option X) → Option X} (bound : Int) (hb : bound ≤ 4611686018427387904)
  (hB : ∀ (i : Nat) s,∀ C : S → Option X,(∀ s,(i : Int) < bound → Lim (fun k=>L k s (IntKind.i64.wrap ((i : Int) + 1))) (C s)) → Lim (fun k=>L (k + 1) s (i : Int)) (B i s C)) (s : S) :
  Lim (fun k=>L k s 0) (forF B (bound.toNat + 1) 0 s):=lim_forF bound hb hB _ 0 s (by omega) (by omega)
def Holds (m : Option Y) (p : Y → Prop) : Prop:=∀ y,m = some y → p y
theorem holds_br {b : Bool} {x y : Option Y} {p : Y → Prop} (hx : Holds x p) (hy : Holds y p) : Holds (br b x y) p:=by
 cases b
 ·exact hy
 ·exact hx
theorem holds_bnd {m : Option Z} {f : Z → Option Y} {p : Y → Prop} (h : ∀ z,Holds (f z) p) : Holds (bnd m f) p:=by
 cases m with
 | none=>intro y hy; simp [bnd] at hy
 | some z=>exact h z
theorem holds_onSum {W : Type} {r : Z ⊕ W} {f : Z → Option Y} {g : W → Option Y} {p : Y → Prop} (hf : ∀ z,Holds (f z) p) (hg : ∀ z,Holds (g z) p) : Holds (onSum r f g) p:=by
 cases r with
 | inl z=>exact hf z
 | inr z=>exact hg z
theorem holds_none {p : Y → Prop} : Holds none p:=fun y h=>by cases h
theorem holds_some {p : Y → Prop} {x : Y} (h : p x) : Holds (some x) p:=fun y e=>by cases e; exact h
theorem holds_forF {S : Type} {B : Int → S → (S → Option X) → Option X} {p : X → Prop} (h : ∀ i s C,(∀ s,Holds (C s) p) → Holds (B i s C) p) : ∀ n i s,Holds (forF B n i s) p
 | 0,_,_=>holds_none
 | n + 1,i,s=>h i s _ fun s'=>holds_forF h n (i + 1) s'
theorem lim_bndP {m : Nat → Option Y} {M : Option Y} {f : Nat → Y → Option X} {F : Y → Option X} (p : Y → Prop) (h : Lim m M) (hp : Holds M p) (hf : ∀ y,p y → Lim (fun k=>f k y) (F y)) : Lim (fun k=>bnd (m k) (fun y=>f k y)) (bnd M F):=by
 obtain ⟨k1,h1⟩:=h
 cases M with
 | none=>exact ⟨k1,fun k hk=>by simp only [h1 k hk]; rfl⟩
 | some y =>
  obtain ⟨k2,h2⟩:=hf y (hp y rfl)
  exact ⟨max k1 k2,fun k hk=>by simp only [h1 k (by omega)]; exact h2 k (by omega)⟩
theorem lim_onSum' {r : Y ⊕ Z} {f : Nat → Y → Option X} {F : Y → Option X} {g : Nat → Z → Option X} {G : Z → Option X} (hf : ∀ y,r = .inl y → Lim (fun k=>f k y) (F y)) (hg : ∀ z,r = .inr z → Lim (fun k=>g k z) (G z)) : Lim (fun k=>onSum r (fun y=>f k y) (fun z=>g k z)) (onSum r F G):=by
 cases r with
 | inl y=>exact hf y rfl
 | inr z=>exact hg z rfl
end
end Go.Ev
end
section
namespace Go.Ev
def Lm {X : Type} (f : Nat → Option X) (v : Option X) : Prop:=∀ r,v = some r → ∃ k0,∀ k,k0 ≤ k → f k = some r
section
variable {X Y Z : Type}
theorem y1q (v : Option X) : Lm (fun _=>v) v:=fun r h=>⟨0,fun _ _=>h⟩
theorem y7q (f : Nat → Option X) : Lm f none:=fun r h=>by cases h
theorem y12q {m : Nat → Option Y} {M : Option Y} {f : Nat → Y → Option X} {F : Y → Option X} (h : Lm m M) (hf : ∀ y,Lm (fun k=>f k y) (F y)) : Lm (fun k=>bnd (m k) (fun y=>f k y)) (bnd M F):=by
 intro r hr
 obtain ⟨y,hy,hr⟩:=y80q hr
 obtain ⟨k1,h1⟩:=h y hy
 obtain ⟨k2,h2⟩:=hf y r hr
 exact ⟨max k1 k2,fun k hk=>by simp only [h1 k (by omega)]; exact h2 k (by omega)⟩
theorem lm_br {b : Bool} {f g : Nat → Option X} {F G : Option X} (hf : Lm f F) (hg : Lm g G) : Lm (fun k=>br b (f k) (g k)) (br b F G):=by
 cases b
 ·exact hg
 ·exact hf
theorem y3q {r : Y ⊕ Z} {f : Nat → Y → Option X} {F : Y → Option X} {g : Nat → Z → Option X} {G : Z → Option X} (hf : ∀ y,Lm (fun k=>f k y) (F y)) (hg : ∀ z,Lm (fun k=>g k z) (G z)) : Lm (fun k=>onSum r (fun y=>f k y) (fun z=>g k z)) (onSum r F G):=by
 cases r with
 | inl y=>exact hf y
 | inr z=>exact hg z
theorem lm_eq {f g : Nat → Option X} {v : Option X} (h : Lm g v) (e : ∀ k,f k = g k) : Lm f v:=fun r hr=>by
 obtain ⟨k0,hk⟩:=h r hr
 exact ⟨k0,fun k hk'=>(e k).trans (hk k hk')⟩
theorem lm_some {f : Nat → Option X} {v : X} (h : Lm f (some v)) : ∃ k,f k = some v:=by
 obtain ⟨k0,hk⟩:=h v rfl
 exact ⟨k0,hk k0 (Nat.le_refl _)⟩
def forG {S : Type} (B : S → (S → Option X) → Option X) : Nat → S → Option X
 | 0,_=>none
 | n + 1,s=>B s (forG B n)
theorem y19q {S : Type} {L : Nat → S → Option X} {B : S → (S → Option X) → Option X} (hB : ∀ s (C : S → Option X),(∀ s,Lm (fun k=>L k s) (C s)) → Lm (fun k=>L (k + 1) s) (B s C)) : ∀ n s,Lm (fun k=>L k s) (forG B n s)
 | 0,s=>y7q _
 | n + 1,s=>fun r hr=>by
  obtain ⟨k0,hk⟩:=hB s _ (y19q hB n) r hr
  refine ⟨k0 + 1,fun k h=>?_⟩
  obtain ⟨j,rfl⟩ : ∃ j,k = j + 1:=⟨k - 1,by omega⟩
  exact hk j (by omega)
end
end Go.Ev
end
section
namespace Go.Ev
theorem forG_fold {α S R X T : Type} (xs : List α) (z : α) {B : T → (T → Option X) → Option X} (emb : Int → S → T) (g : Nat → α → S → S ⊕ R) (fin : S → X) (out : R → X) (I : Nat → S → Prop)
  (hstep : ∀ (i : Nat) s C,i < xs.length → I i s → B (emb (i : Int) s) C = (match g i (xs.getD i z) s with
   | .inl s'=>C (emb ((i + 1 : Nat) : Int) s')
   | .inr r=>some (out r)) ∧ ∀ s',g i (xs.getD i z) s = .inl s' → I (i + 1) s')
  (hend : ∀ s C,I xs.length s → B (emb (xs.length : Int) s) C = some (fin s)) :
  ∀ (n i : Nat) (s : S),i ≤ xs.length → xs.length < n + i → I i s → forG B n (emb (i : Int) s) = some (foldE g fin out (xs.drop i) i s)
 | 0,i,s,h1,h2,_=>absurd h1 (by omega)
 | n + 1,i,s,h1,h2,hI=>by
  simp only [forG]
  by_cases hi : i < xs.length
  ·obtain ⟨e1,e2⟩:=hstep i s (forG B n) hi hI
   have hd : xs.drop i = xs.getD i z :: xs.drop (i + 1):=by
    rw [List.drop_eq_getElem_cons hi]
    simp [List.getD_eq_getElem?_getD,hi]
   rw [e1,hd]
   simp only [foldE]
   cases hg : g i (xs.getD i z) s with
   | inl s'=>exact forG_fold xs z emb g fin out I hstep hend n (i + 1) s' (by omega) (by omega) (e2 s' hg)
   | inr r=>rfl
  ·have : i = xs.length:=by omega
   subst this
   rw [hend s _ hI,List.drop_length]
   rfl
theorem forG_fold0 {α S R X T : Type} {xs : List α} (z : α) {B : T → (T → Option X) → Option X} (emb : Int → S → T) (g : Nat → α → S → S ⊕ R) (fin : S → X) (out : R → X) (I : Nat → S → Prop)
  (hstep : ∀ (i : Nat) s C,i < xs.length → I i s → B (emb (i : Int) s) C = (match g i (xs.getD i z) s with
   | .inl s'=>C (emb ((i + 1 : Nat) : Int) s')
   | .inr r=>some (out r)) ∧ ∀ s',g i (xs.getD i z) s = .inl s' → I (i + 1) s')
  (hend : ∀ s C,I xs.length s → B (emb (xs.length : Int) s) C = some (fin s)) {n : Nat} {s : S} (hn : xs.length < n) (hI : I 0 s) : forG B n (emb 0 s) = some (foldE g fin out xs 0 s):=by
 have:=forG_fold xs z emb g fin out I hstep hend n 0 s (Nat.zero_le _) (by omega) hI
 simpa using this
theorem foldE_onSum {α S R A C Y : Type} (g : Nat → α → S → S ⊕ R) (fin : S → A) (out : R → C) (f : A → Option Y) (h : C → Option Y) : ∀ (xs : List α) (i : Nat) (s : S),
  onSum (foldE g (fun s=>(.inl (fin s) : A ⊕ C)) (fun r=>.inr (out r)) xs i s) f h = foldE g (fun s=>f (fin s)) (fun r=>h (out r)) xs i s
 | [],_,_=>rfl
 | x :: r,i,s=>by
  simp only [foldE]
  cases g i x s with
  | inl s'=>exact foldE_onSum g fin out f h r (i + 1) s'
  | inr r=>rfl
theorem foldE_map {α S R X Y : Type} (g : Nat → α → S → S ⊕ R) (fin : S → X) (out : R → X) (h : X → Y) : ∀ (xs : List α) (i : Nat) (s : S),foldE g (fun s=>h (fin s)) (fun r=>h (out r)) xs i s = h (foldE g fin out xs i s)
 | [],_,_=>rfl
 | x :: r,i,s=>by
  simp only [foldE]
  cases g i x s with
  | inl s'=>exact foldE_map g fin out h r (i + 1) s'
  | inr r=>rfl
end Go.Ev
end
section
namespace Go.Ev
def Ans {X : Type} (m yes no : Option X) (P : Prop) : Prop:=(P → m = yes) ∧ (¬ P → m = no)
section
variable {X Y A B : Type} {m x y yes no : Option X} {P Q R c : Prop} [Decidable c]
theorem y39q : Ans yes yes no True:=⟨fun _=>rfl,fun h=>absurd trivial h⟩
theorem ans_end (h : m = yes) : Ans m yes no True:=⟨fun _=>h,fun h'=>absurd trivial h'⟩
theorem ans_no : Ans no yes no False:=⟨fun h=>h.elim,fun _=>rfl⟩
theorem y21q (h : Ans m yes no P) (e : P ↔ Q) : Ans m yes no Q:=⟨fun q=>h.1 (e.2 q),fun q=>h.2 fun p=>q (e.1 p)⟩
theorem ans_dec {b : Bool} : Ans (some b) (some true) (some false) (b = true):=by cases b <;> exact ⟨fun h=>by simp at h ⊢,fun h=>by simp at h ⊢⟩
theorem y20q : Ans (some (decide c)) (some true) (some false) c:=⟨fun h=>by rw [decide_eq_true h],fun h=>by rw [decide_eq_false h]⟩
theorem ans_ndecide : Ans (some (!decide c)) (some true) (some false) (¬ c):=⟨fun h=>by rw [decide_eq_false h]; rfl,fun h=>by rw [decide_eq_true (Classical.not_not.1 h)]; rfl⟩
theorem y4q (hc : c) (h : Ans x yes no P) : Ans (br (decide c) x y) yes no P:=by rw [y2q hc]; exact h
theorem ans_chkn (hc : ¬ c) (h : Ans y yes no P) : Ans (br (decide c) x y) yes no P:=by rw [y15q hc]; exact h
theorem y5q (h : ¬ c → Ans x yes no P) : Ans (br (decide c) no x) yes no (¬ c ∧ P):=by
 by_cases hc : c
 ·rw [y2q hc]; exact ⟨fun h=>absurd hc h.1,fun _=>rfl⟩
 ·rw [y15q hc]; exact y21q (h hc) ⟨fun h=>⟨hc,h⟩,fun h=>h.2⟩
theorem y32q (h : c → Ans x yes no P) : Ans (br (decide c) x no) yes no (c ∧ P):=by
 by_cases hc : c
 ·rw [y2q hc]; exact y21q (h hc) ⟨fun h=>⟨hc,h⟩,fun h=>h.2⟩
 ·rw [y15q hc]; exact ⟨fun h=>absurd h.1 hc,fun _=>rfl⟩
theorem y117q (h : ¬ c → Ans x yes no P) : Ans (br (decide c) yes x) yes no (c ∨ P):=by
 by_cases hc : c
 ·rw [y2q hc]; exact ⟨fun _=>rfl,fun h=>absurd (.inl hc) h⟩
 ·rw [y15q hc]; exact y21q (h hc) ⟨.inr,fun h=>h.resolve_left hc⟩
theorem ans_br_yes' (h : c → Ans x yes no P) : Ans (br (decide c) x yes) yes no (c → P):=by
 by_cases hc : c
 ·rw [y2q hc]; exact y21q (h hc) ⟨fun h _=>h,fun h=>h hc⟩
 ·rw [y15q hc]; exact ⟨fun _=>rfl,fun h=>absurd (fun h'=>absurd h' hc) h⟩
theorem y60q (h : c → Ans x yes no P) (k : ¬ c → Ans y yes no Q) : Ans (br (decide c) x y) yes no ((c → P) ∧ (¬ c → Q)):=by
 by_cases hc : c
 ·rw [y2q hc]; exact y21q (h hc) ⟨fun h=>⟨fun _=>h,fun h'=>absurd hc h'⟩,fun h=>h.1 hc⟩
 ·rw [y15q hc]; exact y21q (k hc) ⟨fun h=>⟨fun h'=>absurd h' hc,fun _=>h⟩,fun h=>h.2 hc⟩
theorem ans_brt (h : Ans x yes no P) : Ans (br true x y) yes no P:=h
theorem ans_brf (h : Ans y yes no P) : Ans (br false x y) yes no P:=h
theorem br_swap (b : Bool) (x y : Option X) : br (!b) x y = br b y x:=by cases b <;> rfl
theorem br_bool (b : Bool) (x y : Option X) : br b x y = br (decide (b = true)) x y:=by cases b <;> rfl
theorem y147q {b : Bool} (h : ¬ b = true → Ans x yes no P) : Ans (br b no x) yes no (¬ b = true ∧ P):=by rw [br_bool]; exact y5q h
theorem ans_bool_no' {b : Bool} (h : b = true → Ans x yes no P) : Ans (br b x no) yes no (b = true ∧ P):=by rw [br_bool]; exact y32q h
theorem ans_bool_yes {b : Bool} (h : ¬ b = true → Ans x yes no P) : Ans (br b yes x) yes no (b = true ∨ P):=by rw [br_bool]; exact y117q h
theorem ans_bool_yes' {b : Bool} (h : b = true → Ans x yes no P) : Ans (br b x yes) yes no (b = true → P):=by rw [br_bool]; exact ans_br_yes' h
theorem ans_bool {b : Bool} (h : b = true → Ans x yes no P) (k : ¬ b = true → Ans y yes no Q) : Ans (br b x y) yes no ((b = true → P) ∧ (¬ b = true → Q)):=by rw [br_bool]; exact y60q h k
theorem ans_bnd {mm : Option Y} {a b : Y} {f : Y → Option X} (h : Ans mm (some a) (some b) P) (h1 : P → Ans (f a) yes no Q) (h2 : ¬ P → Ans (f b) yes no R) : Ans (bnd mm f) yes no ((P → Q) ∧ (¬ P → R)):=by
 by_cases hp : P
 ·rw [h.1 hp]; exact y21q (h1 hp) ⟨fun h=>⟨fun _=>h,fun h'=>absurd hp h'⟩,fun h=>h.1 hp⟩
 ·rw [h.2 hp]; exact y21q (h2 hp) ⟨fun h=>⟨fun h'=>absurd h' hp,fun _=>h⟩,fun h=>h.2 hp⟩
theorem y13q {mm : Option Y} {a b : Y} {f : Y → Option X} (h : Ans mm (some a) (some b) P) (h2 : f b = no) (h1 : P → Ans (f a) yes no Q) : Ans (bnd mm f) yes no (P ∧ Q):=by
 by_cases hp : P
 ·rw [h.1 hp]; exact y21q (h1 hp) ⟨fun h=>⟨hp,h⟩,fun h=>h.2⟩
 ·rw [h.2 hp]; exact ⟨fun h=>absurd h.1 hp,fun _=>h2⟩
theorem ans_bnd_no' {mm : Option Y} {a b : Y} {f : Y → Option X} (h : Ans mm (some a) (some b) P) (h2 : f a = no) (h1 : ¬ P → Ans (f b) yes no Q) : Ans (bnd mm f) yes no (¬ P ∧ Q):=by
 by_cases hp : P
 ·rw [h.1 hp]; exact ⟨fun h=>absurd hp h.1,fun _=>h2⟩
 ·rw [h.2 hp]; exact y21q (h1 hp) ⟨fun h=>⟨hp,h⟩,fun h=>h.2⟩
theorem ans_bnd_yes {mm : Option Y} {a b : Y} {f : Y → Option X} (h : Ans mm (some a) (some b) P) (h2 : f a = yes) (h1 : ¬ P → Ans (f b) yes no Q) : Ans (bnd mm f) yes no (P ∨ Q):=by
 by_cases hp : P
 ·rw [h.1 hp]; exact ⟨fun _=>h2,fun h=>absurd (.inl hp) h⟩
 ·rw [h.2 hp]; exact y21q (h1 hp) ⟨.inr,fun h=>h.resolve_left hp⟩
theorem ans_bnd_yes' {mm : Option Y} {a b : Y} {f : Y → Option X} (h : Ans mm (some a) (some b) P) (h2 : f b = yes) (h1 : P → Ans (f a) yes no Q) : Ans (bnd mm f) yes no (P → Q):=by
 by_cases hp : P
 ·rw [h.1 hp]; exact y21q (h1 hp) ⟨fun h _=>h,fun h=>h hp⟩
 ·rw [h.2 hp]; exact ⟨fun _=>h2,fun h=>absurd (fun h'=>absurd h' hp) h⟩
theorem y26q {mm : Option Y} {a b : Y} {f : Y → Option X} (h : Ans mm (some a) (some b) P) (h1 : f a = yes) (h2 : f b = no) : Ans (bnd mm f) yes no P:=by
 by_cases hp : P
 ·rw [h.1 hp]; exact ⟨fun _=>h1,fun h=>absurd hp h⟩
 ·rw [h.2 hp]; exact ⟨fun h=>absurd h hp,fun _=>h2⟩
theorem ans_bnd_end' {mm : Option Y} {a b : Y} {f : Y → Option X} (h : Ans mm (some a) (some b) P) (h1 : f a = no) (h2 : f b = yes) : Ans (bnd mm f) yes no (¬ P):=by
 by_cases hp : P
 ·rw [h.1 hp]; exact ⟨fun h=>absurd hp h,fun _=>h1⟩
 ·rw [h.2 hp]; exact ⟨fun _=>h2,fun h=>absurd hp h⟩
theorem y98q {mm : Option Y} {v : Y} {f : Y → Option X} (h : mm = some v) (h1 : Ans (f v) yes no Q) : Ans (bnd mm f) yes no Q:=by rw [h]; exact h1
theorem bnd_eq {mm : Option Y} {v : Y} {f : Y → Option X} (h : mm = some v) : bnd mm f = f v:=by rw [h]; rfl
theorem ans_not {m : Option Bool} (h : Ans m (some true) (some false) P) : Ans m (some false) (some true) (¬ P):=⟨fun hp=>h.2 hp,fun hp=>h.1 (Classical.not_not.1 hp)⟩
theorem ans_eq {m m' : Option X} (h : Ans m yes no P) (h' : Ans m' yes no Q) (e : P ↔ Q) : m = m':=by
 by_cases hp : P
 ·rw [h.1 hp,h'.1 (e.1 hp)]
 ·rw [h.2 hp,h'.2 fun q=>hp (e.2 q)]
theorem ans_total {m : Option Bool} (h : Ans m (some true) (some false) P) : ∃ b : Bool,m = some b ∧ (b = true ↔ P):=by
 by_cases hp : P
 ·exact ⟨true,h.1 hp,by simp [hp]⟩
 ·exact ⟨false,h.2 hp,by simp [hp]⟩
theorem ans_rounds {T : Type} {B : T → (T → Option X) → Option X} (emb : Nat → T) (N : Nat) (p : Nat → Prop)
  (hstep : ∀ i C,i < N → (∀ j,j < i → p j) → Ans (B (emb i) C) (C (emb (i + 1))) no (p i)) (hend : ∀ C,(∀ j,j < N → p j) → B (emb N) C = yes) :
  ∀ n i,i ≤ N → N < n + i → (∀ j,j < i → p j) → Ans (forG B n (emb i)) yes no (∀ j,i ≤ j → j < N → p j)
 | 0,i,h1,h2,_=>absurd h1 (by omega)
 | n + 1,i,h1,h2,h3=>by
  simp only [forG]
  by_cases hi : i < N
  ·have hs:=hstep i (forG B n) hi h3
   by_cases hp : p i
   ·rw [hs.1 hp]
    refine y21q (ans_rounds emb N p hstep hend n (i + 1) hi (by omega) fun j hj=>?_) ⟨fun h j hj hN=>?_,fun h j hj hN=>h j (by omega) hN⟩
    ·rcases Nat.lt_or_ge j i with h | h
     ·exact h3 j h
     ·have : j = i:=by omega
      subst this; exact hp
    ·rcases Nat.eq_or_lt_of_le hj with h' | h'
     ·subst h'; exact hp
     ·exact h j h' hN
   ·rw [hs.2 hp]
    exact ⟨fun h=>absurd (h i (Nat.le_refl _) hi) hp,fun _=>rfl⟩
  ·have : i = N:=by omega
   subst this
   rw [hend _ h3]
   exact ⟨fun _=>rfl,fun h=>absurd (fun j hj hN=>absurd hj (by omega)) h⟩
theorem y36q {T : Type} {B : T → (T → Option X) → Option X} (emb : Nat → T) (N : Nat) (p : Nat → Prop)
  (hstep : ∀ i C,i < N → (∀ j,j < i → p j) → Ans (B (emb i) C) (C (emb (i + 1))) no (p i)) (hend : ∀ C,(∀ j,j < N → p j) → B (emb N) C = yes) {n : Nat} (hn : N < n) :
  Ans (forG B n (emb 0)) yes no (∀ j,j < N → p j) :=
 y21q (ans_rounds emb N p hstep hend n 0 (Nat.zero_le _) (by omega) fun j hj=>absurd hj (by omega)) ⟨fun h j hj=>h j (Nat.zero_le _) hj,fun h j _ hj=>h j hj⟩
theorem y10q {i : Nat} (h : i < 9223372036854775807) : IntKind.i64.wrap ((i : Int) + 1) = ((i + 1 : Nat) : Int):=by rw [y27q (by omega) (by omega)]; omega
theorem y44q {α : Type} [BEq α] [LawfulBEq α] [DecidableEq α] (a b : α) : (a == b) = decide (a = b):=by
 by_cases h : a = b
 ·subst h; simp
 ·rw [decide_eq_false h]; simpa using h
theorem y130q {α : Type} [BEq α] [LawfulBEq α] [DecidableEq α] (a b : α) : (a != b) = decide (¬ a = b):=by
 unfold bne; rw [y44q]; simp
theorem not_dec : (!decide c) = decide (¬ c):=by simp
end
theorem eqI_dec (a b : Int) : eqI a b = decide (a = b):=y44q a b
theorem eqB_dec (a b : Bool) : eqB a b = decide (a = b):=y44q a b
theorem eqS_dec (a b : List UInt8) : eqS a b = decide (a = b):=y44q a b
theorem andB_dec (p q : Prop) [Decidable p] [Decidable q] : andB (decide p) (decide q) = decide (p ∧ q):=by simp [andB]
theorem andB_true (a : Bool) : andB a true = a:=by simp [andB]
def idx {α : Type} (p : α → Bool) (xs : List α) : Int:=if xs.findIdx p < xs.length then (xs.findIdx p : Int) else -1
section
variable {α : Type} {p : α → Bool} {xs : List α}
theorem idx_neg : idx p xs < 0 ↔ ∀ x ∈ xs,p x = false:=by
 unfold idx
 split
 ·rename_i h
  refine ⟨fun h'=>absurd h' (by omega),fun h'=>?_⟩
  have:=List.findIdx_getElem (p:=p) (w:=h)
  rw [h' _ (List.getElem_mem h)] at this
  cases this
 ·rename_i h
  refine ⟨fun _ x hx=>?_,fun _=>by omega⟩
  cases hpx : p x with
  | false=>rfl
  | true=>exact absurd (List.findIdx_lt_length.2 ⟨x,hx,hpx⟩) h
theorem idx_lt : idx p xs < xs.length:=by
 unfold idx
 split <;> omega
theorem idx_ge : -1 ≤ idx p xs:=by
 unfold idx
 split <;> omega
theorem idx_eq {i : Nat} : idx p xs = (i : Int) ↔ ∃ h : i < xs.length,p xs[i] = true ∧ ∀ j (hj : j < i),p (xs[j]'(by omega)) = false:=by
 unfold idx
 split
 ·rename_i h
  constructor
  ·intro e
   have e : xs.findIdx p = i:=by omega
   subst e
   exact ⟨h,List.findIdx_getElem,fun j hj=>by simpa using List.not_of_lt_findIdx hj⟩
  ·rintro ⟨h1,h2,h3⟩
   have : xs.findIdx p = i:=(List.findIdx_eq h1).2 ⟨h2,h3⟩
   omega
 ·rename_i h
  refine ⟨fun e=>by omega,fun ⟨h1,h2,_⟩=>absurd (List.findIdx_lt_length.2 ⟨_,List.getElem_mem h1,h2⟩) h⟩
theorem idx_rounds {T X : Type} {z : α} {B : T → (T → Option X) → Option X} (emb : Nat → T) (out : Nat → X) (fin : X)
  (hstep : ∀ i C,i < xs.length → B (emb i) C = if p (xs.getD i z) = true then some (out i) else C (emb (i + 1))) (hend : ∀ C,B (emb xs.length) C = some fin) :
  ∀ n i,i ≤ xs.length → xs.length < n + i → (∀ j (hj : j < xs.length),j < i → p xs[j] = false) → forG B n (emb i) = some (if xs.findIdx p < xs.length then out (xs.findIdx p) else fin)
 | 0,i,h1,h2,_=>absurd h1 (by omega)
 | n + 1,i,h1,h2,h3=>by
  simp only [forG]
  by_cases hi : i < xs.length
  ·rw [hstep i _ hi]
   have hg : xs.getD i z = xs[i]:=by simp [List.getD_eq_getElem?_getD,hi]
   rw [hg]
   by_cases hp : p xs[i] = true
   ·have : xs.findIdx p = i:=(List.findIdx_eq hi).2 ⟨hp,fun j hj=>h3 j (by omega) hj⟩
    rw [if_pos hp,this,if_pos hi]
   ·rw [if_neg hp]
    refine idx_rounds emb out fin hstep hend n (i + 1) hi (by omega) fun j hj hji=>?_
    rcases Nat.lt_or_ge j i with h | h
    ·exact h3 j hj h
    ·have : j = i:=by omega
     subst this; simpa using hp
  ·have : i = xs.length:=by omega
   subst this
   have hno : ¬ xs.findIdx p < xs.length:=fun h=>by
    have h4:=List.findIdx_getElem (p:=p) (w:=h)
    rw [h3 _ h h] at h4; cases h4
   rw [hend,if_neg hno]
theorem idx_loop {T X : Type} {z : α} {B : T → (T → Option X) → Option X} (emb : Nat → T) (out : Nat → X) (fin : X)
  (hstep : ∀ i C,i < xs.length → B (emb i) C = if p (xs.getD i z) = true then some (out i) else C (emb (i + 1))) (hend : ∀ C,B (emb xs.length) C = some fin) {n : Nat} (hn : xs.length < n) :
  forG B n (emb 0) = some (if xs.findIdx p < xs.length then out (xs.findIdx p) else fin) :=
 idx_rounds emb out fin hstep hend n 0 (Nat.zero_le _) (by omega) fun j hj h=>absurd h (by omega)
end
end Go.Ev
end
section
namespace Go.Ev
def tuples {α : Type} (xs : List α) : Nat → List (List α)
 | 0=>[[]]
 | n + 1=>(tuples xs n).flatMap fun l=>xs.map fun x=>x :: l
theorem mem_tuples {α : Type} {xs : List α} : ∀ (n : Nat) (ys : List α),ys.length = n → (∀ y ∈ ys,y ∈ xs) → ys ∈ tuples xs n
 | 0,ys,h,_=>by
  have:=List.eq_nil_of_length_eq_zero h
  subst this
  simp [tuples]
 | n + 1,[],h,_=>by simp at h
 | n + 1,y :: ys,h,hm=>by
  simp only [tuples,List.mem_flatMap,List.mem_map]
  exact ⟨ys,mem_tuples n ys (by simpa using h) (fun z hz=>hm z (by simp [hz])),y,hm y (by simp),rfl⟩
theorem max_all {β : Type} {Q : Nat → β → Prop} : ∀ (l : List β),(∀ b ∈ l,∃ k0,∀ k,k0 ≤ k → Q k b) → ∃ k0,∀ k,k0 ≤ k → ∀ b ∈ l,Q k b
 | [],_=>⟨0,fun _ _ b hb=>by simp at hb⟩
 | b :: l,h=>by
  obtain ⟨k1,h1⟩:=h b (by simp)
  obtain ⟨k2,h2⟩:=max_all l fun c hc=>h c (by simp [hc])
  refine ⟨max k1 k2,fun k hk c hc=>?_⟩
  rcases List.mem_cons.1 hc with rfl | hc
  ·exact h1 k (by omega)
  ·exact h2 k (by omega) c hc
theorem lm_srt {α : Type} {z : α} {less : Nat → List α → Int → Int → Option Bool} {L : List α → Int → Int → Option Bool} {xs : List α} (h : ∀ ys i j,Lm (fun k=>less k ys i j) (L ys i j)) : Lm (fun k=>srt z (fun ys i j=>less k ys i j) xs) (srt z (fun ys i j=>L ys i j) xs):=by
 intro r hr
 by_cases h1 : xs.length ≤ 1
 ·rw [srt_small h1] at hr
  exact ⟨0,fun k _=>by simp only [srt_small h1,hr]⟩
 ·obtain ⟨lt,hok,rfl⟩:=srt_some hr h1
  have hall : ∃ k0,∀ k,k0 ≤ k → ∀ b ∈ tuples xs xs.length,∀ i ∈ List.range xs.length,∀ j ∈ List.range xs.length,less k b (i : Nat) (j : Nat) = some (lt (b.getD i z) (b.getD j z)) ∨ ¬ (b.length = xs.length ∧ ∀ y ∈ b,y ∈ xs):=by
   refine max_all _ fun b hb=>?_
   by_cases hg : b.length = xs.length ∧ ∀ y ∈ b,y ∈ xs
   ·refine (max_all (Q:=fun k (i : Nat)=>∀ j ∈ List.range xs.length,less k b (i : Nat) (j : Nat) = some (lt (b.getD i z) (b.getD j z)) ∨ ¬ (b.length = xs.length ∧ ∀ y ∈ b,y ∈ xs)) (List.range xs.length) fun i hi=>?_)
    refine (max_all (Q:=fun k (j : Nat)=>less k b (i : Nat) (j : Nat) = some (lt (b.getD i z) (b.getD j z)) ∨ ¬ (b.length = xs.length ∧ ∀ y ∈ b,y ∈ xs)) (List.range xs.length) fun j hj=>?_)
    obtain ⟨k0,hk0⟩:=h b i j _ (hok.2 b hg.1 hg.2 i j (List.mem_range.1 hi) (List.mem_range.1 hj))
    exact ⟨k0,fun k hk=>.inl (hk0 k hk)⟩
   ·exact ⟨0,fun k _ i _ j _=>.inr hg⟩
  obtain ⟨k0,hk0⟩:=hall
  refine ⟨k0,fun k hk=>?_⟩
  refine srt_eq ⟨hok.1,fun ys hy hm i j hi hj=>?_⟩
  rcases hk0 k hk ys (mem_tuples _ ys hy hm) i (List.mem_range.2 hi) j (List.mem_range.2 hj) with h | h
  ·exact h
  ·exact absurd ⟨hy,hm⟩ h
end Go.Ev
end
section
namespace Go.Ev
def Rng (k : IntKind) (n : Int) : Prop:=(Lit.int k n).wf = true
def SzR (m : Option Int) (S : Prop) : Prop:=∃ r,m = some r ∧ (r = -1 ∨ (0 ≤ r ∧ r ≤ 1048576 ∧ S))
theorem sz_less {b c : Int} {n : Nat} (hw : IntKind.i64.wrap (b - (n : Int)) = c) (h0 : 0 ≤ b) (h1 : b ≤ 1048576) (hn : n ≤ maxLen) : c < 0 ∨ (0 ≤ c ∧ c ≤ 1048576 ∧ n ≤ 1048576):=by
 simp only [maxLen] at hn
 rw [y27q (by omega) (by omega)] at hw
 omega
theorem szr_and {m : Option Int} {A B : Prop} (a : A) (h : SzR m B) : SzR m (A ∧ B):=by
 obtain ⟨r,e,h⟩:=h
 exact ⟨r,e,h.imp id fun ⟨h0,h1,h2⟩=>⟨h0,h1,a,h2⟩⟩
theorem mem_getD {α : Type} {xs : List α} {z : α} {i : Nat} (hi : i < xs.length) : xs.getD i z ∈ xs:=by
 rw [List.getD_eq_getElem?_getD,List.getElem?_eq_getElem hi]; exact List.getElem_mem hi
theorem sz_loop {α : Type} {xs : List α} (z : α) {B : List α × Int × Int → (List α × Int × Int → Option (Int ⊕ Int)) → Option (Int ⊕ Int)} {E : α → Prop}
  (hB : ∀ (i : Nat) (s : Int) C,i < xs.length → 0 ≤ s → s ≤ 1048576 → ∃ r,(r = -1 ∨ (0 ≤ r ∧ r ≤ 1048576 ∧ E (xs.getD i z))) ∧ B (xs,s,(i : Int)) C = if r < 0 then some (.inr (-1)) else C (xs,r,((i + 1 : Nat) : Int)))
  (hEnd : ∀ (s : Int) C,B (xs,s,(xs.length : Int)) C = some (.inl s)) (b : Int) (h0 : 0 ≤ b) (h1 : b ≤ 1048576) {n : Nat} (hn : xs.length < n) :
  SzR (bnd (forG B n (xs,b,0)) fun y1=>onSum y1 (fun y2=>some y2) fun y2=>some y2) (∀ y ∈ xs,E y):=by
 have key : ∀ n i b,0 ≤ b → b ≤ 1048576 → i ≤ xs.length → xs.length < n + i → (∀ j (hj : j < xs.length),j < i → E xs[j]) → SzR (bnd (forG B n (xs,b,(i : Int))) fun y1=>onSum y1 (fun y2=>some y2) fun y2=>some y2) (∀ y ∈ xs,E y):=by
  intro n
  induction n with
  | zero=>intro i b _ _ h1 h2; omega
  | succ n ih =>
   intro i b b0 b1 hi hn hE
   simp only [forG]
   by_cases hlt : i < xs.length
   ·obtain ⟨r,hr,e⟩:=hB i b (forG B n) hlt b0 b1
    rw [e]
    rcases hr with rfl | ⟨r0,r1,hr⟩
    ·exact ⟨-1,by simp [bnd,onSum], .inl rfl⟩
    ·rw [if_neg (by omega)]
     refine ih (i + 1) r r0 r1 hlt (by omega) fun j hj hji=>?_
     have hg : xs.getD i z = xs[i]:=by simp [List.getD_eq_getElem?_getD,hlt]
     rw [hg] at hr
     rcases Nat.lt_or_ge j i with h | h
     ·exact hE j hj h
     ·have : j = i:=by omega
      subst this; exact hr
   ·have : i = xs.length:=by omega
    subst this
    rw [hEnd]
    refine ⟨b,rfl, .inr ⟨b0,b1,fun y hy=>?_⟩⟩
    obtain ⟨j,hj,rfl⟩:=List.mem_iff_getElem.1 hy
    exact hE j hj hj
 exact key n 0 b h0 h1 (Nat.zero_le _) (by omega) fun j hj h=>absurd h (by omega)
theorem sz_less' {b c : Int} {n : Nat} (hw : IntKind.i64.wrap (b - (n : Int)) = c) (h0 : 0 ≤ b) (h1 : b ≤ 1048576) (hn : n ≤ maxLen) : ∃ r : Int,(r = -1 ∨ (0 ≤ r ∧ r ≤ 1048576 ∧ n ≤ 1048576)) ∧ (c < 0 ∧ r = -1 ∨ c = r):=by
 rcases sz_less hw h0 h1 hn with h | h
 ·exact ⟨-1, .inl rfl, .inl ⟨h,rfl⟩⟩
 ·exact ⟨c, .inr h, .inr rfl⟩
theorem fold_copy {α R : Type} (out : R → List α) : ∀ (xs pre post : List α),xs.length = post.length → foldE (fun i (x : α) (ys : List α)=>(.inl (ys.set i x) : List α ⊕ R)) id out xs pre.length (pre ++ post) = pre ++ xs
 | [],pre,post,h=>by
  have : post = []:=List.eq_nil_of_length_eq_zero (by simpa using h.symm)
  subst this
  rfl
 | x :: r,pre,[],h=>by simp at h
 | x :: r,pre,p :: post,h=>by
  simp only [foldE]
  have e : (pre ++ p :: post).set pre.length x = (pre ++ [x]) ++ post:=by simp
  have el : pre.length + 1 = (pre ++ [x]).length:=by simp
  rw [e,el,fold_copy out r (pre ++ [x]) post (by simpa using h)]
  simp
theorem copy_loop {α : Type} (xs : List α) (z z' : α) {B : List α × List α × Int → (List α × List α × Int → Option (List α)) → Option (List α)}
  (hB : ∀ (i : Nat) (ys : List α) C,i < xs.length → ys.length = xs.length → B (xs,ys,(i : Int)) C = C (xs,ys.set i (xs.getD i z),((i + 1 : Nat) : Int)))
  (hEnd : ∀ (ys : List α) C,B (xs,ys,(xs.length : Int)) C = some ys) {n : Nat} (hn : xs.length < n) : forG B n (xs,List.replicate xs.length z',0) = some xs:=by
 have key:=forG_fold0 (S:=List α) (R:=Empty) (X:=List α) (xs:=xs) z (B:=B) (fun i ys=>(xs,ys,i)) (fun i x ys=>.inl (ys.set i x)) id (fun r=>r.elim) (fun _ ys=>ys.length = xs.length)
  (fun i ys C hi hy=>by
   refine ⟨hB i ys C hi hy,fun s' e=>?_⟩
   obtain rfl:=Sum.inl.inj e
   simp only [List.length_set]
   exact hy)
  (fun ys C _=>hEnd ys C) (n:=n) (s:=List.replicate xs.length z') hn (by simp)
 rw [key]
 have:=fold_copy (R:=Empty) (fun r=>r.elim) xs [] (List.replicate xs.length z') (by simp)
 simp only [List.length_nil,List.nil_append] at this
 exact congrArg some this
theorem eq_loop {α : Type} (xs : List α) {B : List α × List α × Int → (List α × List α × Int → Option (Unit ⊕ Bool)) → Option (Unit ⊕ Bool)}
  (hB : ∀ (i : Nat) C,i < xs.length → B (xs,xs,(i : Int)) C = C (xs,xs,((i + 1 : Nat) : Int))) (hEnd : ∀ C,B (xs,xs,(xs.length : Int)) C = some (.inl ())) {n : Nat} (hn : xs.length < n) :
  ∀ i,i ≤ xs.length → xs.length < n + i → forG B n (xs,xs,(i : Int)) = some (.inl ()):=by
 clear hn
 induction n with
 | zero=>intro i h1 h2; omega
 | succ n ih =>
  intro i h1 h2
  simp only [forG]
  by_cases hi : i < xs.length
  ·rw [hB i _ hi]
   exact ih (i + 1) (by omega) (by omega)
  ·have : i = xs.length:=by omega
   subst this
   exact hEnd _
end Go.Ev
end
section
namespace Go.Ev
section
variable {P : Program} {Q Q' : Exit → Act → World → Prop}
theorem oper_wp_post {o : Oper} {a : Act} {w : World} {K K' : Act → World → Prop} (hQ : ∀ x a w,Q' x a w → x ≠ .normal → Q x a w) (hlet : LetsOut Q' → LetsOut Q) (hK : ∀ a w,K a w → K' a w) (h : o.wp P a w K Q') : o.wp P a w K' Q:=by
 unfold Oper.wp at *
 generalize (execOp a.eval o).run P w = r at *
 cases r with
 | ok n w' =>
  cases n <;> simp only [Oper.upon] at h ⊢ <;>
   first
    | exact hK _ _ h
    | exact Calls.mono h (fun e w'' he=>by cases e <;> first | exact hK _ _ he | exact hlet he | exact hQ _ _ _ he (by simp))
    | exact Rows.mono h (fun _ _ he=>hK _ _ he)
 | halt x w'=>cases x <;> simp only [Oper.upon] at h ⊢ <;> first | exact h | exact hQ _ _ _ h (by simp)
variable {pre : Array Oper} {o : Oper}
theorem wpAny_last (hg : ∀ p ∈ pre.toList,p.guard = none) (hgo : o.guard = none) (hlow : ∀ (i : Nat) (p : Oper),(pre.push o)[i]? = some p → ∀ x ∈ p.after.toList,x.on < i)
  (hdep : ∀ j,j < pre.size → ∃ (i : Nat) (p : Oper),j < i ∧ (pre.push o)[i]? = some p ∧ ∃ x ∈ p.after.toList,Region.binds .any x = true ∧ x.on = j)
  (hQ : ∀ x a w,Q' x a w → x ≠ .normal → Q x a w) (hlet : LetsOut Q' → LetsOut Q) (hend : ∀ a w,Q' .normal a w → o.wp P a w (fun a w=>Q .normal a w) Q) :
  ∀ (fuel : Nat) (l : Array Bool) (a : Act) (w : World),l.size = pre.size → (∀ i p,pre[i]? = some p → l.getD i false = true → ∀ x ∈ p.after.toList,Region.binds .any x = true → l.getD x.on false = true) →
   wpAny P .any pre Q' fuel l a w → wpAny P .any (pre.push o) Q (fuel + 1) (l.push false) a w:=by
 have hpush : ∀ (l : Array Bool) (i : Nat) (d : Bool),i < l.size → (l.push false).getD i d = l.getD i d:=fun l i d hi=>by
  simp [Array.getD_eq_getD_getElem?,Array.getElem?_push,Nat.ne_of_lt hi]
 have hpushl : ∀ (l : Array Bool) (d : Bool),(l.push false).getD l.size d = false:=fun l d=>by simp [Array.getD_eq_getD_getElem?,Array.getElem?_push]
 have hops : ∀ i,i < pre.size → (pre.push o)[i]? = pre[i]?:=fun i hi=>by simp [Array.getElem?_push,Nat.ne_of_lt hi]
 have hlast : (pre.push o)[pre.size]? = some o:=by simp [Array.getElem?_push]
 have hin : ∀ {i : Nat} {l : Array Bool} {ops : Array Oper},i ∈ Region.ready .any ops l ↔ i < ops.size ∧ l.getD i true = false ∧ ∃ p,ops[i]? = some p ∧ ∀ x ∈ p.after.toList,Region.binds .any x = true → l.getD x.on false = true:=by
  intro i l ops
  simp only [Region.ready,List.mem_filter,List.mem_range,Bool.and_eq_true,Bool.not_eq_true']
  constructor
  ·rintro ⟨h1,h2,h3⟩
   refine ⟨h1,h2, ?_⟩
   cases hp : ops[i]? with
   | none=>rw [hp] at h3; cases h3
   | some p =>
    rw [hp] at h3
    refine ⟨p,rfl,fun x hx hb=>?_⟩
    have h4 : (p.after.all fun e=>!Region.binds .any e || l.getD e.on false) = true:=h3
    rw [← Array.all_toList,List.all_eq_true] at h4
    have:=h4 x hx
    rw [hb] at this
    simpa using this
  ·rintro ⟨h1,h2,p,hp,h3⟩
   refine ⟨h1,h2, ?_⟩
   rw [hp]
   show (p.after.all fun e=>!Region.binds .any e || l.getD e.on false) = true
   rw [← Array.all_toList,List.all_eq_true]
   intro x hx
   cases hb : Region.binds .any x with
   | true=>simp [h3 x hx hb]
   | false=>rfl
 have hft : ∀ (l : Array Bool) i,i < l.size → l.getD i true = l.getD i false:=fun l i hi=>by simp [Array.getD_eq_getD_getElem?,hi]
 have hready : ∀ (l : Array Bool),l.size = pre.size → ∀ i,i < pre.size → (i ∈ Region.ready .any (pre.push o) (l.push false) ↔ i ∈ Region.ready .any pre l):=fun l hl i hi=>by
  rw [hin,hin,hops i hi,hpush l i true (by omega),Array.size_push]
  have hx : ∀ p,pre[i]? = some p → ∀ x ∈ p.after.toList,(l.push false).getD x.on false = l.getD x.on false:=fun p hp x hx=>hpush l _ _ (by
   have:=hlow i p (by rw [hops i hi]; exact hp) x hx
   omega)
  constructor
  ·rintro ⟨_,h2,p,hp,h3⟩
   exact ⟨hi,h2,p,hp,fun x hm hb=>by rw [← hx p hp x hm]; exact h3 x hm hb⟩
  ·rintro ⟨_,h2,p,hp,h3⟩
   exact ⟨by omega,h2,p,hp,fun x hm hb=>by rw [hx p hp x hm]; exact h3 x hm hb⟩
 have hall : ∀ (l : Array Bool),l.size = pre.size → (∀ i p,pre[i]? = some p → l.getD i false = true → ∀ x ∈ p.after.toList,Region.binds .any x = true → l.getD x.on false = true) → pre.size ∈ Region.ready .any (pre.push o) (l.push false) → ∀ j,j < pre.size → l.getD j false = true:=by
  intro l hl hc hr
  obtain ⟨_,_,p,hp,h3⟩:=hin.1 hr
  rw [hlast] at hp
  obtain rfl:=Option.some.inj hp
  have key : ∀ d j,j < pre.size → pre.size ≤ j + d → l.getD j false = true:=by
   intro d
   induction d with
   | zero=>intro j h1 h2; omega
   | succ d ih =>
    intro j h1 h2
    obtain ⟨i,p,hji,hpi,x,hx,hb,hxj⟩:=hdep j h1
    rcases Nat.lt_trichotomy i pre.size with h | h | h
    ·rw [hops i h] at hpi
     have:=hc i p hpi (ih i h (by omega)) x hx hb
     rwa [hxj] at this
    ·subst h
     rw [hlast] at hpi
     obtain rfl:=Option.some.inj hpi
     have:=h3 x hx hb
     rw [hxj,hpush l j _ (by omega)] at this
     exact this
    ·rw [Array.getElem?_eq_none (by simp; omega)] at hpi
     cases hpi
  exact fun j hj=>key pre.size j hj (by omega)
 have hnone : ∀ (l : Array Bool),l.size = pre.size → (∀ j,j < pre.size → l.getD j false = true) → Region.ready .any pre l = []:=fun l hl h=>by
  rw [List.eq_nil_iff_forall_not_mem]
  intro i hi
  obtain ⟨h1,h2,_⟩:=hin.1 hi
  rw [hft l i (by omega),h i h1] at h2
  cases h2
 have hsome : ∀ (l : Array Bool),l.size = pre.size → Region.ready .any (pre.push o) (l.push false) ≠ []:=by
  intro l hl he
  have hno : ∀ i,i ∉ Region.ready .any (pre.push o) (l.push false):=by rw [he]; simp
  have hmin : ∀ d j,j < d → j < pre.size → l.getD j false = true:=by
   intro d
   induction d with
   | zero=>intro j h; omega
   | succ d ih =>
    intro j h1 h2
    cases hb : l.getD j false with
    | true=>rfl
    | false =>
     exfalso
     refine hno j ((hready l hl j h2).2 (hin.2 ⟨h2,by rw [hft l j (by omega)]; exact hb,pre[j],by simp [h2],fun x hx _=>?_⟩))
     have:=hlow j pre[j] (by rw [hops j h2]; simp [h2]) x hx
     exact ih x.on (by omega) (by omega)
  refine hno pre.size (hin.2 ⟨by simp,by have:=hpushl l true; rwa [hl] at this,o,hlast,fun x hx _=>?_⟩)
  have:=hlow pre.size o hlast x hx
  rw [hpush l x.on false (by omega)]
  exact hmin (x.on + 1) x.on (by omega) this
 have hfin : ∀ (f : Nat) (l : Array Bool) (a : Act) (w : World),l.size = pre.size → (∀ j,j < pre.size → l.getD j false = true) → Q .normal a w → wpAny P .any (pre.push o) Q f ((l.push false).setIfInBounds pre.size true) a w:=by
  intro f l a w hl h hq
  have h0 : Region.ready .any (pre.push o) ((l.push false).setIfInBounds pre.size true) = []:=by
   rw [List.eq_nil_iff_forall_not_mem]
   intro i hi
   obtain ⟨h1,h2,_⟩:=hin.1 hi
   rw [Array.size_push] at h1
   rw [hft _ i (by simp; omega),getD_set (by simp; omega)] at h2
   split at h2
   ·cases h2
   ·rw [hpush l i false (by omega),h i (by omega)] at h2
    cases h2
  cases f with
  | zero=>exact ⟨h0,hq⟩
  | succ f=>exact ⟨fun _=>hq,fun i hi=>by rw [h0] at hi; cases hi⟩
 have hend' : ∀ (f : Nat) (l : Array Bool) (a : Act) (w : World),l.size = pre.size → (∀ j,j < pre.size → l.getD j false = true) → Q' .normal a w → wpOp P (pre.push o) Q pre.size (wpAny P .any (pre.push o) Q f ((l.push false).setIfInBounds pre.size true)) a w:=by
  intro f l a w hl h hq
  unfold wpOp
  rw [hlast]
  simp only [Region.wanted,hgo,if_true]
  exact .inl (oper_wp_post (fun _ _ _ h _=>h) (fun h=>h) (fun a' w' h'=>hfin f l a' w' hl h h') (hend a w hq))
 intro fuel
 induction fuel with
 | zero =>
  intro l a w hl hc h
  obtain ⟨h0,hq⟩:=h
  refine ⟨fun h=>absurd h (hsome l hl),fun i hi=>?_⟩
  have hi1:=(hin.1 hi).1
  rw [Array.size_push] at hi1
  rcases Nat.lt_or_ge i pre.size with h | h
  ·have:=(hready l hl i h).1 hi
   rw [h0] at this
   cases this
  ·obtain rfl : i = pre.size:=by omega
   exact hend' 0 l a w hl (hall l hl hc hi) hq
 | succ f ih =>
  intro l a w hl hc h
  refine ⟨fun h=>absurd h (hsome l hl),fun i hi=>?_⟩
  have hi1:=(hin.1 hi).1
  rw [Array.size_push] at hi1
  rcases Nat.lt_or_ge i pre.size with h' | h'
  ·have hr:=(hready l hl i h').1 hi
   obtain ⟨_,_,p,hp,hdp⟩:=hin.1 hr
   have:=h.2 i hr
   unfold wpOp at this ⊢
   rw [hops i h',hp]
   rw [hp] at this
   have hgp : p.guard = none:=hg p (by rw [Array.mem_toList_iff]; exact Array.mem_of_getElem? hp)
   simp only [Region.wanted,hgp,if_true] at this ⊢
   have hset : (l.push false).setIfInBounds i true = (l.setIfInBounds i true).push false:=by
    apply Array.ext_getElem?
    intro q
    simp only [Array.getElem?_setIfInBounds,Array.getElem?_push,Array.size_push,Array.size_setIfInBounds]
    by_cases e1 : i = q
    ·subst e1
     simp [show i < l.size by omega,show i < l.size + 1 by omega,Nat.ne_of_lt (show i < l.size by omega)]
    ·simp [e1]
   refine this.imp (fun t=>oper_wp_post hQ hlet (fun a' w' k=>?_) t) (fun t=>⟨t.1,hlet t.2⟩)
   rw [hset]
   refine ih (l.setIfInBounds i true) a' w' (by simp [hl]) (fun j q hq hj x hx hb=>?_) k
   rw [getD_set (by omega)] at hj ⊢
   split
   ·rfl
   ·by_cases e1 : i = j
    ·subst e1
     rw [hp] at hq
     obtain rfl:=Option.some.inj hq
     exact hdp x hx hb
    ·rw [if_neg e1] at hj
     exact hc j q hq hj x hx hb
  ·obtain rfl : i = pre.size:=by omega
   have ha:=hall l hl hc hi
   exact hend' (f + 1) l a w hl ha (h.1 (hnone l hl ha))
theorem call2_wp {o : Oper} {f : Nat} {x y : Operand} {ts : Array TypeId} (ho : o.op = .call ⟨.value (.func f),#[x,y],ts⟩) (hent : Enters' P f) {a : Act} {w : World} {R : Ending → World → Prop} {next : Act → World → Prop}
  (h : Calls P f #[a.eval x,a.eval y] w R) (hR : ∀ e w',R e w' → ∃ v,e = .returned v ∧ next (a.put o.dst v) w') : o.wp P a w next Q:=by
 obtain ⟨dst,op,type,pos,after,guard⟩:=o
 dsimp only at ho
 subst ho
 have hrun : (execOp a.eval ⟨dst, .call ⟨.value (.func f),#[x,y],ts⟩,type,pos,after,guard⟩).run P w = .ok (.enter f #[a.eval x,a.eval y]) w:=by
  have e1 : a.eval (.func f) = .func (.func f) #[] #[]:=rfl
  simp only [execOp,resolve,e1,Deferred.ofValue,Sem.run_bind,Sem.run_pure,Result.andThen_ok,invoke]
  have:=hent #[a.eval x,a.eval y] w
  simpa using this
 unfold Oper.wp
 rw [hrun,Oper.upon_enter]
 refine Calls.mono h ?_
 intro e w' he
 obtain ⟨v,rfl,hn⟩:=hR e w' he
 exact hn
end
def findR (id : Nat) : Code → List Oper
 | .region i ops _=>match Nat.beq i id with
  | true=>ops.toList
  | false=>[]
 | .seq a b=>findR id a ++ findR id b
 | .cond _ a b=>findR id a ++ findR id b
 | .block _ b=>findR id b
 | .loop b=>findR id b
 | .scope b=>findR id b
 | .rangeFunc _ _ a b=>findR id a ++ findR id b
 | _=>[]
theorem put_eq (f : Nat → Value) : ∀ (is : List Nat) (t : Array Value) (j : Nat),(is.foldl (fun t i=>t.setIfInBounds i (f i)) t)[j]? = if j ∈ is ∧ j < t.size then some (f j) else t[j]?
 | [],t,j=>by simp
 | i :: is,t,j=>by
  rw [List.foldl_cons,put_eq f is,Array.size_setIfInBounds,Array.getElem?_setIfInBounds]
  by_cases h1 : j ∈ is
  ·by_cases h2 : j < t.size
   ·simp [h1,h2]
   ·simp [h1,h2]
    omega
  ·by_cases h2 : i = j
   ·subst h2
    by_cases h3 : i < t.size
    ·simp [h1,h3]
    ·simp [h1,h3]
   ·have h2' : ¬ j = i:=fun e=>h2 e.symm
    simp [h1,h2,h2']
theorem arr_put {t t' : Array Value} (is : List Nat) (hs : t'.size = t.size) (h : ∀ i,i < t.size → i ∉ is → t'[i]? = t[i]?) : ∃ f : Nat → Value,t' = is.foldl (fun t i=>t.setIfInBounds i (f i)) t:=by
 refine ⟨fun i=>t'.getD i undef,Array.ext_getElem? fun j=>?_⟩
 rw [put_eq]
 by_cases hj : j < t.size
 ·by_cases hm : j ∈ is
  ·rw [if_pos ⟨hm,hj⟩]
   simp [Array.getD_eq_getD_getElem?,show j < t'.size by omega]
  ·rw [if_neg (fun h=>hm h.1)]
   exact h j hj hm
 ·rw [if_neg (fun h=>hj h.2),Array.getElem?_eq_none (by omega),Array.getElem?_eq_none (by omega)]
theorem binds_any (x : Edge) : Region.binds .any x = y58q x:=by
 unfold Region.binds y58q
 cases x.ground <;> rfl
def lowB : Nat → List Oper → Bool
 | _,[]=>true
 | i,p :: r=>(p.after.toList.all fun x=>Nat.blt x.on i) && lowB (i + 1) r
def waitB (j : Nat) : Nat → List Oper → Bool
 | _,[]=>false
 | i,p :: r=>(Nat.blt j i && p.after.toList.any fun x=>y58q x && Nat.beq x.on j) || waitB j (i + 1) r
def lastB (all : List Oper) (n : Nat) : Bool:=all.all (fun p=>p.guard.isNone) && lowB 0 all && (List.range n).all fun j=>waitB j 0 all
theorem lowB_spec : ∀ (l : List Oper) (i : Nat),lowB i l = true → ∀ j p,l[j]? = some p → ∀ x ∈ p.after.toList,x.on < i + j
 | [],i,_,j,p,hp=>by simp at hp
 | q :: l,i,h,j,p,hp=>by
  simp only [lowB,Bool.and_eq_true,List.all_eq_true] at h
  cases j with
  | zero =>
   simp at hp; subst hp
   intro x hx
   exact Nat.le_of_ble_eq_true (h.1 x hx)
  | succ j =>
   intro x hx
   have:=lowB_spec l (i + 1) h.2 j p (by simpa using hp) x hx
   omega
theorem waitB_spec {j : Nat} : ∀ (l : List Oper) (i : Nat),waitB j i l = true → ∃ d p,j < i + d ∧ l[d]? = some p ∧ ∃ x ∈ p.after.toList,y58q x = true ∧ x.on = j
 | [],i,h=>by simp [waitB] at h
 | q :: l,i,h=>by
  simp only [waitB,Bool.or_eq_true,Bool.and_eq_true,List.any_eq_true] at h
  rcases h with ⟨h1,x,hx,h2,h3⟩ | h
  ·exact ⟨0,q,Nat.le_of_ble_eq_true h1,rfl,x,hx,h2,Nat.eq_of_beq_eq_true h3⟩
  ·obtain ⟨d,p,h1,h2,h3⟩:=waitB_spec l (i + 1) h
   exact ⟨d + 1,p,by omega,by simpa using h2,h3⟩
theorem wp_last {P : Program} {Q : Exit → Act → World → Prop} {id : Nat} {ops pre : Array Oper} {o : Oper} {all : List Oper} {a : Act} {w : World} (hm : P.follows .mixedOrders = true) (hops : ops = pre.push o) (hall : all = pre.toList ++ [o]) (hB : lastB all pre.size = true)
  (h : wpAny P .any pre (fun x a w=>x = .normal ∧ o.wp P a w (fun a w=>Q .normal a w) Q) pre.size (Array.replicate pre.size false) a { w with drawn:=w.drawn + 1 }) : (Code.region id ops true).wp P Q a w:=by
 subst hops
 simp only [lastB,Bool.and_eq_true,List.all_eq_true,List.mem_range] at hB
 obtain ⟨⟨h1,h2⟩,h3⟩:=hB
 have hget : ∀ i,(pre.push o)[i]? = all[i]?:=fun i=>by rw [hall,← Array.getElem?_toList,Array.toList_push]
 refine wp_region_any hm ?_
 rw [Array.size_push,show Array.replicate (pre.size + 1) false = (Array.replicate pre.size false).push false by rw [Array.replicate_succ]]
 refine wpAny_last (pre:=pre) (o:=o) (Q':=fun x a w=>x = .normal ∧ o.wp P a w (fun a w=>Q .normal a w) Q) (fun p hp=>?_) ?_ (fun i p hp x hx=>?_) (fun j hj=>?_) (fun x a w h1 h2=>absurd h1.1 h2) (fun ⟨a,w,h,_⟩=>by cases h) (fun a w h=>h.2) _ _ a _ (by simp) (fun i p hp hi=>?_) h
 ·exact Option.isNone_iff_eq_none.1 (h1 p (by rw [hall]; exact List.mem_append_left _ hp))
 ·exact Option.isNone_iff_eq_none.1 (h1 o (by rw [hall]; simp))
 ·have:=lowB_spec all 0 h2 i p (by rw [← hget]; exact hp) x hx
  omega
 ·obtain ⟨d,p,k1,k2,x,k3,k4,k5⟩:=waitB_spec all 0 (h3 j hj)
  exact ⟨d,p,by omega,by rw [hget]; exact k2,x,k3,by rw [binds_any]; exact k4,k5⟩
 ·exfalso
  have : (Array.replicate pre.size false).getD i false = false:=by
   simp only [Array.getD_eq_getD_getElem?,Array.getElem?_replicate]
   split <;> rfl
  rw [this] at hi
  cases hi
end Go.Ev
end
section
namespace Go.Ev
open Go.RowKit (Below)
def tabDeep (P : Program) (Γ : Tab) : List (Nat × TI) → Bool
 | []=>true
 | (T,ti) :: r=>tiDeep P Γ T ti && tabDeep P Γ r
def Deep (P : Program) (Γ : Tab) : Prop:=∀ T ti,find Γ T = some ti → tiDeep P Γ T ti = true
theorem deep_of {P : Program} {Γ : Tab} : ∀ {l : List (Nat × TI)},tabDeep P Γ l = true → ∀ T ti,find l T = some ti → tiDeep P Γ T ti = true
 | [],_,T,ti,h=>by simp [find] at h
 | (U,tu) :: r,h,T,ti,hf=>by
  simp only [tabDeep,Bool.and_eq_true] at h
  rw [y14q] at hf
  by_cases e : U = T
  ·rw [if_pos e] at hf
   obtain rfl:=Option.some.inj hf
   subst e
   exact h.1
  ·rw [if_neg e] at hf
   exact deep_of h.2 T ti hf
def Rd {H : Type} : (t : Ty) → t.den → DataW H → Prop
 | .int k,n,d=>d = .lit (.int k n) ∧ (Lit.int k n).wf = true
 | .bool,b,d=>d = .lit (.bool b)
 | .str,s,d=>d = .lit (.string s) ∧ s.length ≤ maxLen
 | .sl t,xs,d=>(d = .nil ∧ xs = []) ∨ ∃ es sp,d = .slice es sp ∧ es.length = xs.length ∧ xs.length ≤ maxLen ∧ ∀ i e,es[i]? = some e → Rd t (xs.getD i t.zero) e
 | .unit,_,d=>d = .agg []
 | .any,_,_=>False
 | .osl _ _,_,_=>False
 | .mp _ _,_,_=>False
 | .omp _ _,_,_=>False
 | .pair a b,x,d=>∃ p ps,d = .agg (p :: ps) ∧ Rd a x.1 p ∧ Rd b x.2 (.agg ps)
theorem list_of {α : Type} (d : α) (p : Nat → α → Prop) : ∀ n,(∀ i,i < n → ∃ x,p i x) → ∃ l : List α,l.length = n ∧ ∀ i,i < n → p i (l.getD i d)
 | 0,_=>⟨[],rfl,fun i hi=>absurd hi (by omega)⟩
 | n + 1,h=>by
  obtain ⟨l,hl,hp⟩:=list_of d p n fun i hi=>h i (by omega)
  obtain ⟨x,hx⟩:=h n (by omega)
  refine ⟨l ++ [x],by simp [hl],fun i hi=>?_⟩
  by_cases hin : i < n
  ·have : (l ++ [x]).getD i d = l.getD i d:=by simp [List.getD_eq_getElem?_getD,List.getElem?_append_left (show i < l.length by omega)]
   rw [this]
   exact hp i hin
  ·have : i = n:=by omega
   subst this
   have : (l ++ [x]).getD i d = x:=by simp [List.getD_eq_getElem?_getD,← hl]
   rw [this]
   exact hx
section
variable {H : Type} {enc : TypeId × Value → H} {P : Program} {w : World} {base : Nat} {spare : Nat → Bool} {held : Bool} {Γ : Tab}
theorem cellsOf_eq (hΓ : TabOk P Γ) {T : Nat} {ti : TI} (hf : find Γ T = some ti) : P.cellsOf T = ti.ty.size:=by
 obtain ⟨i,z,cs,hi,hs,_⟩:=(hΓ T ti hf).info
 simp [Program.cellsOf,hi,hs]
theorem cells_plain {a : Addr} {n : Nat} {cs : List Value} (h : w.cells? base a n = some cs) (hn : 0 < n) : a.spot = none ∧ a.block < w.heap.size ∧ cs.length = n ∧ CellsAt w a.block a.off cs:=by
 obtain ⟨h1,h2,h3⟩:=World.cells?_some h
 have h0 : ∃ v,w.cell? a = some v:=by
  have h4:=h3 0 hn
  have e0 : a.add 0 = a:=by simp [Addr.add]
  rw [e0] at h4
  exact ⟨cs[0],by rw [h4]; exact List.getElem?_eq_getElem (by omega)⟩
 obtain ⟨v,hv⟩:=h0
 have hsp : a.spot = none:=by
  unfold World.cell? at hv
  split at hv
  ·split at hv
   ·simp at hv
   ·rename_i hs
    cases hq : a.spot with
    | none=>rfl
    | some s=>rw [hq] at hs; simp at hs
  ·simp at hv
 refine ⟨hsp, ?_,h2,fun j u hj=>?_⟩
 ·unfold World.cell? at hv
  split at hv
  ·rename_i hh
   exact heap_lt hh
  ·simp at hv
 ·have hjn : j < n:=by
   have:=(List.getElem?_eq_some_iff.1 hj).1
   omega
  have:=h3 j hjn
  rw [hj,addr_eta hsp,y47q] at this
  exact this
theorem trod_val (hΓ : TabOk P Γ) (hD : Deep P Γ) : ∀ (fuel : Nat) (T : Nat) (ti : TI) (cs : List Value) (d : DataW H) (ps : List MemPlace),find Γ T = some ti → DataW.trod enc P w base spare held fuel T cs = some (d,ps) →
  ∃ x : ti.ty.den,Val w (fun b=>b < w.heap.size) ti.ty x cs ∧ Rd ti.ty x d
 | 0,T,ti,cs,d,ps,hf,h=>by simp [DataW.trod] at h
 | fuel + 1,T,ti,cs,d,ps,hf,h=>by
  have hT:=hΓ T ti hf
  cases hag : ti.ty.isAgg with
  | true =>
   have hdeep:=hD T ti hf
   unfold tiDeep at hdeep
   rw [hag] at hdeep
   simp only at hdeep
   obtain ⟨sd,hu,_,hst⟩:=hT.under
   rcases hst hag with ⟨fs,rfl,_⟩ | ⟨_,_,rfl,_⟩
   case inr=>rw [hu] at hdeep; simp at hdeep
   rw [hu] at hdeep
   simp only at hdeep
   obtain ⟨xs,n,hn,hx,hl,hxl,hfld⟩:=DataW.trod_struct hu h
   obtain rfl : fuel = n:=by omega
   simp only [Prod.mk.injEq] at hx
   obtain ⟨rfl,_⟩:=hx
   rw [cellsOf_eq hΓ hf] at hl
   have key : ∀ (fl : List Field) (t : Ty) (off : Nat) (ys : List (DataW H × List MemPlace)),y35q Γ fl t off = true → off + t.size = cs.length → ys.length = fl.length →
     (∀ (i : Nat) (f : Field),fl[i]? = some f → DataW.trod enc P w base spare held fuel f.type ((cs.drop f.offset).take (P.cellsOf f.type)) = ys[i]?) → t.isAgg = true →
     ∃ x : t.den,Val w (fun b=>b < w.heap.size) t x (cs.drop off) ∧ Rd t x (.agg (ys.map (·.1))):=by
    intro fl
    induction fl with
    | nil =>
     intro t off ys hft hsz hyl _ _
     cases t <;> simp [y35q] at hft
     have : ys = []:=List.eq_nil_of_length_eq_zero (by simpa using hyl)
     subst this
     refine ⟨(), ?_,rfl⟩
     simp only [Val]
     simp only [Ty.size,Nat.add_zero] at hsz
     rw [hsz,List.drop_length]
    | cons f fl ih =>
     intro t off ys hft hsz hyl hfl _
     obtain ⟨a,t2,rfl⟩ : ∃ a t2,t = .pair a t2:=by
      cases t <;> first | (simp [y35q] at hft; done) | exact ⟨_,_,rfl⟩
     simp only [y35q,Bool.and_eq_true] at hft
     obtain ⟨⟨h1,h2⟩,h3⟩:=hft
     have h1:=Nat.eq_of_beq_eq_true h1
     cases hff : find Γ f.type with
     | none=>simp [hff] at h2
     | some tf =>
      simp only [hff] at h2
      have hta:=y64q h2
      cases ys with
      | nil=>simp at hyl
      | cons y ys =>
       have h0:=hfl 0 f rfl
       simp only [List.getElem?_cons_zero] at h0
       obtain ⟨dy,py⟩:=y
       obtain ⟨x1,v1,r1⟩:=trod_val hΓ hD fuel f.type tf _ dy py hff h0
       rw [cellsOf_eq hΓ hff] at v1
       have hb : t2.isAgg = true:=by
        cases fl with
        | nil=>cases t2 <;> simp [y35q] at h3 <;> rfl
        | cons g gl=>cases t2 <;> simp [y35q] at h3 <;> rfl
       obtain ⟨x2,v2,r2⟩:=ih t2 (off + a.size) ys h3 (by simp only [Ty.size] at hsz; omega) (by simpa using hyl) (fun i g hg=>by
        have:=hfl (i + 1) g (by simpa using hg)
        simpa using this) hb
       subst hta
       refine ⟨(x1,x2),⟨(cs.drop off).take tf.ty.size,cs.drop (off + tf.ty.size), ?_, ?_,v2⟩,dy,ys.map (·.1),rfl,r1,r2⟩
       ·rw [← List.drop_drop,List.take_append_drop]
       ·rw [h1] at v1
        exact v1
   obtain ⟨x,hv,hr⟩:=key fs.toList ti.ty 0 xs hdeep (by rw [hl,Nat.zero_add]) (by simpa using hxl) (fun i f hfi=>hfld i f (by simpa using hfi)) hag
   exact ⟨x,by simpa using hv,hr⟩
  | false =>
   cases hty : ti.ty with
   | pair a b=>rw [hty] at hag; simp [Ty.isAgg] at hag
   | unit=>rw [hty] at hag; simp [Ty.isAgg] at hag
   | any =>
    have hdeep:=hD T ti hf
    unfold tiDeep at hdeep
    rw [hty] at hdeep
    simp [Ty.isAgg] at hdeep
   | osl U t =>
    have hdeep:=hD T ti hf
    unfold tiDeep at hdeep
    rw [hty] at hdeep
    simp [Ty.isAgg] at hdeep
   | mp k v =>
    have hdeep:=hD T ti hf
    unfold tiDeep at hdeep
    rw [hty] at hdeep
    simp [Ty.isAgg] at hdeep
   | omp k v =>
    have hdeep:=hD T ti hf
    unfold tiDeep at hdeep
    rw [hty] at hdeep
    simp [Ty.isAgg] at hdeep
   | bool =>
    obtain ⟨b,e1,e2⟩:=DataW.trod_bool (hT.bool hty) h
    simp only [Prod.mk.injEq] at e2
    obtain ⟨rfl,_⟩:=e2
    exact ⟨b,e1,rfl⟩
   | int k =>
    obtain ⟨n,e1,e2,hw⟩:=DataW.trod_int (hT.int k hty) h
    simp only [Prod.mk.injEq] at e2
    obtain ⟨rfl,_⟩:=e2
    exact ⟨n,e1,rfl,hw⟩
   | str =>
    obtain ⟨s,e1,e2,hs⟩:=DataW.trod_string (hT.str hty) h
    simp only [Prod.mk.injEq] at e2
    obtain ⟨rfl,_⟩:=e2
    exact ⟨s.data.toList,⟨s,e1,rfl⟩,rfl,by rw [← ba_size]; exact hs⟩
   | sl t =>
    obtain ⟨hu,hpos,tj,hj,htj⟩:=hT.sl t (.inl hty)
    have hcell:=cellsOf_eq hΓ hj
    rw [htj] at hcell
    rcases DataW.trod_slice hu h with ⟨e1,e2⟩ | ⟨a,len,cap,els,rest,n,hn,e1,e2,hb,hlc,hcm,hlen,hget,_⟩
    ·simp only [Prod.mk.injEq] at e2
     obtain ⟨rfl,_⟩:=e2
     exact ⟨[],⟨none,0,0,e1,rfl,Nat.le_refl _,fun j hj=>absurd hj (by simp)⟩, .inl ⟨rfl,rfl⟩⟩
    ·obtain rfl : fuel = n:=by omega
     simp only [Prod.mk.injEq] at e2
     obtain ⟨rfl,_⟩:=e2
     have some_of : ∀ i,i < len → ∃ c0,w.cells? base (a.add (i * P.cellsOf ti.elem)) (P.cellsOf ti.elem) = some c0 ∧ DataW.trod enc P w base spare held fuel ti.elem c0 = els[i]?:=by
      intro i hi
      have hg:=hget i hi
      cases hq : w.cells? base (a.add (i * P.cellsOf ti.elem)) (P.cellsOf ti.elem) with
      | none =>
       rw [hq] at hg
       simp only [Option.bind_none] at hg
       rw [List.getElem?_eq_getElem (by omega)] at hg
       cases hg
      | some c0 =>
       rw [hq] at hg
       exact ⟨c0,rfl,hg⟩
     have hel : ∀ i,i < len → ∃ y : t.den,∃ cs' dy py,a.spot = none ∧ a.block < w.heap.size ∧ els[i]? = some (dy,py) ∧ CellsAt w a.block (a.off + i * t.size) cs' ∧ Val w (fun b=>b < w.heap.size) t y cs' ∧ Rd t y dy:=by
      intro i hi
      obtain ⟨cs',hcs,hg⟩:=some_of i hi
      have hgi : els[i]? = some els[i]:=List.getElem?_eq_getElem (by omega)
      rw [hgi] at hg
      obtain ⟨y,v1,r1⟩:=trod_val hΓ hD fuel ti.elem tj cs' els[i].1 els[i].2 hj hg
      obtain ⟨g1,g2,g3,g4⟩:=cells_plain hcs (by rw [hcell]; exact hpos)
      have hsp : a.spot = none:=by
       obtain ⟨c0,hq,_⟩:=some_of 0 (by omega)
       have:=(cells_plain hq (by rw [hcell]; exact hpos)).1
       simpa [Addr.add] using this
      subst htj
      rw [addr_eta hsp,y47q] at g2 g4
      simp only at g2 g4
      rw [hcell] at g4
      exact ⟨y,cs',els[i].1,els[i].2,hsp,g2,hgi,g4,v1,r1⟩
     obtain ⟨ys,hyl,hy⟩:=list_of t.zero (fun i y=>∃ cs' dy py,a.spot = none ∧ a.block < w.heap.size ∧ els[i]? = some (dy,py) ∧ CellsAt w a.block (a.off + i * t.size) cs' ∧ Val w (fun b=>b < w.heap.size) t y cs' ∧ Rd t y dy) len hel
     refine ⟨ys,⟨some a,len,cap,e1,hyl,hlc,fun j hj=>?_⟩, .inr ⟨_,_,rfl,by simp [hlen,hyl],by omega,fun i e he=>?_⟩⟩
     ·obtain ⟨cs',dy,py,g1,g2,g3,g4,g5,g6⟩:=hy j (by omega)
      exact ⟨a,cs',rfl,g1,g2,g4,g5⟩
     ·have hi : i < len:=by
       have:=(List.getElem?_eq_some_iff.1 he).1
       simp at this
       omega
      obtain ⟨cs',dy,py,g1,g2,g3,g4,g5,g6⟩:=hy i hi
      rw [List.getElem?_map,g3] at he
      simp only [Option.map_some,Option.some.injEq] at he
      subst he
      exact g6
end
end Go.Ev
end
section
namespace Go.Ev
open Go.RowKit Go.ChangeShapes Go.WideShapes
def RdAll {H : Type} : (ats : List AT) → ATs.den ats → List (DataW H) → Prop
 | [],_,l=>l = []
 | .val t :: r,x,d :: l=>Rd t x.1 d ∧ RdAll r x.2 l
 | _,_,_=>False
section
variable {H : Type} {enc : TypeId × Value → H} {P : Program} {W W' : World} {Γ : Tab}
theorem okWide_plain {r : Reach} {b : Nat} {T : Nat} {d : TypeDesc} {v : Value} (hd : P.underlying T = some d) (hp : d.isRow = false) (hk : match d with
  | .bool | .string | .int _ | .slice _=>True
  | _=>False) (h : Value.okWide P W r b T v) : v.cells = #[v]:=by
 unfold Value.okWide at h
 rw [hd] at h
 cases d <;> simp only at hk h <;> first | exact hk.elim | skip
 all_goals
  unfold Cell.okWide at h
  rw [hd] at h
  cases v <;> simp only at h <;> first | rfl | (unfold Cell.ok at h; rw [hd] at h; simp only at h)
theorem asVal_of (hΓ : TabOk P Γ) (hD : Deep P Γ) {T : Nat} {ti : TI} (hf : find Γ T = some ti) {r : Reach} {b : Nat} {v : Value} (h : Value.okWide P W r b T v) : AsVal ti.ty v.cells.toList v:=by
 have hT:=hΓ T ti hf
 obtain ⟨d,hu,hrow,hst⟩:=hT.under
 unfold AsVal
 cases ha : ti.ty.isAgg with
 | true =>
  rcases hst ha with ⟨fs,rfl,_⟩ | ⟨_,_,rfl,_⟩
  case inr=>have hdeep:=hD T ti hf; unfold tiDeep at hdeep; rw [ha,hu] at hdeep; simp at hdeep
  obtain ⟨cs,e,_⟩:=okWide_struct hu h
  subst e
  simp [Value.cells]
 | false =>
  simp only
  have : v.cells = #[v]:=by
   cases hty : ti.ty with
   | int k=>exact okWide_plain (hT.int k hty) rfl trivial h
   | bool=>exact okWide_plain (hT.bool hty) rfl trivial h
   | str=>exact okWide_plain (hT.str hty) rfl trivial h
   | sl t=>exact okWide_plain (hT.sl t (.inl hty)).1 rfl trivial h
   | pair a b=>rw [hty] at ha; simp [Ty.isAgg] at ha
   | unit=>rw [hty] at ha; simp [Ty.isAgg] at ha
   | any =>
    have hdeep:=hD T ti hf
    unfold tiDeep at hdeep
    rw [hty] at hdeep
    simp [Ty.isAgg] at hdeep
   | osl U t =>
    have hdeep:=hD T ti hf
    unfold tiDeep at hdeep
    rw [hty] at hdeep
    simp [Ty.isAgg] at hdeep
   | mp k v =>
    have hdeep:=hD T ti hf
    unfold tiDeep at hdeep
    rw [hty] at hdeep
    simp [Ty.isAgg] at hdeep
   | omp k v =>
    have hdeep:=hD T ti hf
    unfold tiDeep at hdeep
    rw [hty] at hdeep
    simp [Ty.isAgg] at hdeep
  rw [this]
theorem args_of (hΓ : TabOk P Γ) (hD : Deep P Γ) {base : Nat} {sp : Nat → Bool} {held : Bool} {b : Nat} {r : Reach} : ∀ (ts : List TypeId) (ats : List AT) (vs : List Value) (ds : List (DataW H)) (ps : List MemPlace),
  R2 (fun T a=>∃ ti,find Γ T = some ti ∧ a = .val ti.ty) ts ats → (∀ (j : Nat) t v,ts[j]? = some t → vs[j]? = some v → Value.okWide P W r b t v) → DataW.TrodAll enc P W base sp held ts vs ds ps →
  ∃ x : ATs.den ats,Args W (fun b=>b < W.heap.size) ats x vs ∧ RdAll ats x ds
 | [],[],vs,ds,ps,_,_,h=>by
  cases vs <;> cases ds <;> simp [DataW.TrodAll] at h
  exact ⟨(),rfl,rfl⟩
 | T :: ts,a :: ats,vs,ds,ps,⟨⟨ti,hf,ha⟩,h2⟩,hval,h=>by
  subst ha
  cases vs with
  | nil=>simp [DataW.TrodAll] at h
  | cons v vs =>
   cases ds with
   | nil=>simp [DataW.TrodAll] at h
   | cons d ds =>
    obtain ⟨p,q,⟨fuel,h1⟩,h3,_⟩:=h
    obtain ⟨x,g1,g2⟩:=trod_val hΓ hD fuel T ti _ d p hf h1
    obtain ⟨y,g3,g4⟩:=args_of hΓ hD ts ats vs ds q h2 (fun j t u hj hu=>hval (j + 1) t u (by simpa using hj) (by simpa using hu)) h3
    exact ⟨(x,y),⟨⟨_,g1,asVal_of hΓ hD hf (hval 0 T v rfl rfl)⟩,g3⟩,g2,g4⟩
 | [],_ :: _,_,_,_,h,_,_=>by simp [R2] at h
 | _ :: _,[],_,_,_,h,_,_=>by simp [R2] at h
theorem trodAll_stays (hl : laidOutB P = true) : ∀ (ts : List TypeId) (vs : List Value) (ds : List (DataW H)) (ps : List MemPlace),(∀ T ∈ ts,P.readableRec T = true ∧ T < P.types.size) → DataW.TrodAll enc P W 0 (fun _=>true) true ts vs ds ps → Below W.heap.size W W' → (∀ x ∈ ps,x.block < W.heap.size) →
  DataW.TrodAll enc P W' 0 (fun b=>decide (b < W.heap.size)) true ts vs ds ps
 | [],vs,ds,ps,_,h,_,_=>by
  cases vs <;> cases ds <;> simp [DataW.TrodAll] at h
  subst h
  exact rfl
 | T :: ts,vs,ds,ps,hr,h,hb,hlt=>by
  cases vs with
  | nil=>simp [DataW.TrodAll] at h
  | cons v vs =>
   cases ds with
   | nil=>simp [DataW.TrodAll] at h
   | cons d ds =>
    obtain ⟨p,q,h1,h3,rfl⟩:=h
    obtain ⟨r1,r2⟩:=hr T List.mem_cons_self
    exact ⟨p,q,Below.trod hl r1 r2 h1 hb fun x hx=>hlt x (List.mem_append_left _ hx),trodAll_stays hl ts vs ds q (fun T hT=>hr T (List.mem_cons_of_mem _ hT)) h3 hb fun x hx=>hlt x (List.mem_append_right _ hx),rfl⟩
theorem cell_lt {w : World} {a : Addr} {v : Value} (h : w.cell? a = some v) : a.block < w.heap.size:=by
 unfold World.cell? at h
 split at h
 ·rename_i hh
  exact heap_lt hh
 ·simp at h
theorem trodAll_length {base : Nat} {sp : Nat → Bool} {held : Bool} : ∀ {ts : List TypeId} {vs : List Value} {ds : List (DataW H)} {ps : List MemPlace},DataW.TrodAll enc P W base sp held ts vs ds ps → ds.length = ts.length
 | [],vs,ds,ps,h=>by cases vs <;> cases ds <;> simp [DataW.TrodAll] at h; rfl
 | T :: ts,[],ds,ps,h=>by simp [DataW.TrodAll] at h
 | T :: ts,v :: vs,[],ps,h=>by simp [DataW.TrodAll] at h
 | T :: ts,v :: vs,d :: ds,ps,⟨p,q,_,h,_⟩=>by simp [trodAll_length h]
theorem law_true (hΓ : TabOk P Γ) (hD : Deep P Γ) (hl : laidOutB P = true) {fid : Nat} {ats : List AT} {fn : Nat → ATs.den ats → Option Bool} (hc : ConOk P W fid ⟨ats,[.bool],fn⟩) {f : Func} {Tb : TypeId} (hrt : f.resultTypes = #[Tb]) (hb : P.underlying Tb = some .bool)
  (has : R2 (fun T a=>∃ ti,find Γ T = some ti ∧ a = .val ti.ty) f.params.toList ats) (hread : ∀ T ∈ f.params.toList,P.readableRec T = true ∧ T < P.types.size) {s : ChangeSpec} (hv : s.vars = []) {args : Array Value} {ds gs : List (DataW H)} {before : List MemPlace} {base : Nat} {r : Reach}
  (hval : ∀ (j : Nat) t v,f.params[j]? = some t → args[j]? = some v → Value.okWide P W r base t v) {apart fresh handsOn : Bool} (hW : DataW.Whole enc P f.params.toList s.vars apart W args.toList ds gs before)
  (hsp : ∀ l : List (DataW H),l.length = f.params.toList.length → s.fn H l = { results:=[.lit (.bool true)],args:=l }) (hpure : ∀ x : ATs.den ats,RdAll ats x ds → ∃ k,fn k x = some true) :
  Calls P fid args W fun e W'=>∃ v,e = .returned v ∧ s.post enc P f apart fresh handsOn false W args v W':=by
 have hlt:=hW.lt
 have hW':=hW
 obtain ⟨p,q,hA,hV,hpq,hfz,hnd⟩:=hW
 rw [hv] at hV
 obtain ⟨rfl,rfl⟩:=trodVars_none hV
 rw [List.append_nil] at hpq
 subst hpq
 have hsp:=hsp ds (trodAll_length hA)
 have e0 : ds ++ [] = ds:=List.append_nil ds
 obtain ⟨x,hx,hrd⟩:=args_of hΓ hD f.params.toList ats args.toList ds _ has (fun j t v hj hu=>hval j t v (by simpa using hj) (by simpa using hu)) hA
 obtain ⟨k,hk⟩:=hpure x hrd
 have hcall:=hc k x true W (fun b=>b < W.heap.size) args.toList (Below.refl _ _) (fun _ h=>h) hk hx
 have hargs : args.toList.toArray = args:=by simp
 rw [hargs] at hcall
 refine Calls.mono hcall ?_
 intro e W' ⟨l,he,hbel,hres⟩
 obtain ⟨v,hl1,cs,hv1,hv2⟩:=hres
 subst hl1
 have hvb : v = .bool true:=by
  simp only [Val] at hv1
  simp only [AsVal,Ty.isAgg] at hv2
  subst hv2
  simpa using hv1
 subst hvb
 refine ⟨_,he,ds,[],before,[],before,[],hW', ?_, ?_, ?_,hbel.frame _,fun h=>absurd h (by simp)⟩
 ·rw [e0,hsp,hrt]
  exact trodAll_cons_mk (shut_bool hb _) trodAll_mk0
 ·rw [e0,hsp]
  exact trodAll_stays hl _ _ _ _ hread hA hbel fun y hy=>by simpa using hlt y hy
 ·rw [e0,hsp,hv]
  exact rfl
end
end Go.Ev
end
section
namespace Go.Ev
open Go Go.Proofs
def MkMax : Int:=4611686018427387904
def MK {X : Type} (M : X → Int → Option (Int × X)) (H : X → Int → Option Int) (c : Int) (P : X → Prop) : Prop :=
 ∀ x k,P x → 0 ≤ k → k + c ≤ MkMax → ∃ k' x',M x k = some (k',x') ∧ H x' k = some k' ∧ k ≤ k' ∧ k' ≤ k + c
def MkStep {X : Type} (zm zh : X) (BM : List X × Int × Int → (List X × Int × Int → Option (List X × Int)) → Option (List X × Int)) (BH : List X × Int × Int → (List X × Int × Int → Option (Int ⊕ Int)) → Option (Int ⊕ Int)) (c : Int) (P : X → Prop) : Prop :=
 ∀ (i : Nat) x k,P x → 0 ≤ k → k + c ≤ MkMax → i < 1048576 → ∃ k' x',
  (∀ l C,i < l.length → l.getD i zm = x → BM (l,k,(i : Int)) C = C (l.set i x',k',((i + 1 : Nat) : Int))) ∧
  (∀ l C,i < l.length → l.getD i zh = x' → BH (l,k,(i : Int)) C = C (l,k',((i + 1 : Nat) : Int))) ∧ k ≤ k' ∧ k' ≤ k + c
theorem getD_setl {α : Type} {l : List α} {i : Nat} {x z : α} (h : i < l.length) : (l.set i x).getD i z = x:=by
 simp [List.getD_eq_getElem?_getD,h]
theorem getD_mid {α : Type} (p : List α) (x : α) (t : List α) (z : α) : (p ++ x :: t).getD p.length z = x:=by
 simp [List.getD_eq_getElem?_getD]
theorem set_mid {α : Type} (p : List α) (x y : α) (t : List α) : (p ++ x :: t).set p.length y = p ++ y :: t:=by
 simp
section
variable {X : Type} {zm zh : X} {BM : List X × Int × Int → (List X × Int × Int → Option (List X × Int)) → Option (List X × Int)} {BH : List X × Int × Int → (List X × Int × Int → Option (Int ⊕ Int)) → Option (Int ⊕ Int)} {c : Int} {P : X → Prop}
theorem mk_loop (hs : MkStep zm zh BM BH c P) (hc : 0 ≤ c)
  (hm : ∀ l k C,BM (l,k,(l.length : Int)) C = some (l,k)) (hh : ∀ l k C,BH (l,k,(l.length : Int)) C = some (.inl k)) :
  ∀ (r p : List X) (k : Int),(∀ x ∈ r,P x) → 0 ≤ k → k + c * r.length ≤ MkMax → p.length + r.length ≤ 1048576 → ∃ k' r',
   r'.length = r.length ∧ k ≤ k' ∧ k' ≤ k + c * r.length ∧ (∀ n,r.length < n → forG BM n (p ++ r,k,(p.length : Int)) = some (p ++ r',k')) ∧
   (∀ n (q : List X),q.length = p.length → r.length < n → forG BH n (q ++ r',k,(p.length : Int)) = some (.inl k'))
 | [],p,k,_,h0,hk,hl=>by
  refine ⟨k,[],rfl,Int.le_refl _,by simp,fun n hn=>?_,fun n q hq hn=>?_⟩
  ·obtain ⟨m,rfl⟩ : ∃ m,n = m + 1:=⟨n - 1,by simp at hn; omega⟩
   have:=hm p k (forG BM m)
   simpa [forG] using this
  ·obtain ⟨m,rfl⟩ : ∃ m,n = m + 1:=⟨n - 1,by simp at hn; omega⟩
   have:=hh q k (forG BH m)
   rw [hq] at this
   simpa [forG] using this
 | x :: t,p,k,hP,h0,hk,hl=>by
  have hlen : ((x :: t).length : Int) = t.length + 1:=by simp
  have hmul : c * ((x :: t).length : Int) = c * t.length + c:=by rw [hlen,Int.mul_add,Int.mul_one]
  have hpos : 0 ≤ c * (t.length : Int):=Int.mul_nonneg hc (by omega)
  rw [hmul] at hk ⊢
  have hl' : p.length + (t.length + 1) ≤ 1048576:=by simpa using hl
  obtain ⟨k1,x',e1,e2,g1,g2⟩:=hs p.length x k (hP x (by simp)) h0 (by omega) (by omega)
  obtain ⟨k2,t',q1,q2,q3,q4,q5⟩:=mk_loop hs hc hm hh t (p ++ [x']) k1 (fun y hy=>hP y (by simp [hy])) (by omega) (by omega) (by simp; omega)
  refine ⟨k2,x' :: t',by simp [q1],by omega,by omega,fun n hn=>?_,fun n q hq hn=>?_⟩
  ·obtain ⟨m,rfl⟩ : ∃ m,n = m + 1:=⟨n - 1,by simp at hn; omega⟩
   have a:=e1 (p ++ x :: t) (forG BM m) (by simp) (getD_mid p x t zm)
   rw [set_mid] at a
   have b:=q4 m (by simp at hn; omega)
   simp only [List.append_assoc,List.cons_append,List.nil_append,List.length_append,List.length_cons,List.length_nil,Nat.zero_add] at b
   simp only [forG]; rw [a]; exact b
  ·obtain ⟨m,rfl⟩ : ∃ m,n = m + 1:=⟨n - 1,by simp at hn; omega⟩
   have a:=e2 (q ++ x' :: t') (forG BH m) (by simp; omega) (by rw [← hq]; exact getD_mid q x' t' zh)
   have b:=q5 m (q ++ [x']) (by simp [hq]) (by simp at hn; omega)
   simp only [List.append_assoc,List.cons_append,List.nil_append,List.length_append,List.length_cons,List.length_nil,Nat.zero_add] at b
   simp only [forG]; rw [a]; exact b
theorem mk_slice (hs : MkStep zm zh BM BH c P) (hc : 0 ≤ c)
  (hm : ∀ l k C,BM (l,k,(l.length : Int)) C = some (l,k)) (hh : ∀ l k C,BH (l,k,(l.length : Int)) C = some (.inl k))
  (l : List X) (k : Int) (hP : l.length ≤ 1048576 ∧ ∀ x ∈ l,P x) (h0 : 0 ≤ k) (hk : k + c * 1048576 ≤ MkMax) : ∃ k' l',
   forG BM ((l.length : Int).toNat + 1) (l,k,0) = some (l',k') ∧ forG BH ((l'.length : Int).toNat + 1) (l',k,0) = some (.inl k') ∧ k ≤ k' ∧ k' ≤ k + c * 1048576:=by
 have hmul : c * (l.length : Int) ≤ c * 1048576:=Int.mul_le_mul_of_nonneg_left (by omega) hc
 obtain ⟨k',l',e1,g1,g2,e2,e3⟩:=mk_loop hs hc hm hh l [] k hP.2 h0 (by omega) (by simpa using hP.1)
 refine ⟨k',l', ?_, ?_,g1,by omega⟩
 ·have:=e2 ((l.length : Int).toNat + 1) (by simp)
  simpa using this
 ·have:=e3 ((l'.length : Int).toNat + 1) [] rfl (by simp [e1])
  simpa using this
end
def MKo {X : Type} (M : X → Int → Option (Int × X)) (c : Int) (P : X → Prop) : Prop :=
 ∀ x k,P x → 0 ≤ k → k + c ≤ MkMax → ∃ k' x',M x k = some (k',x') ∧ k ≤ k' ∧ k' ≤ k + c
def MkStepo {X : Type} (zm : X) (BM : List X × Int × Int → (List X × Int × Int → Option (List X × Int)) → Option (List X × Int)) (c : Int) (P : X → Prop) : Prop :=
 ∀ (i : Nat) x k,P x → 0 ≤ k → k + c ≤ MkMax → i < 1048576 → ∃ k' x',
  (∀ l C,i < l.length → l.getD i zm = x → BM (l,k,(i : Int)) C = C (l.set i x',k',((i + 1 : Nat) : Int))) ∧ k ≤ k' ∧ k' ≤ k + c
section
variable {X : Type} {zm : X} {BM : List X × Int × Int → (List X × Int × Int → Option (List X × Int)) → Option (List X × Int)} {c : Int} {P : X → Prop}
theorem mk_loopo (hs : MkStepo zm BM c P) (hc : 0 ≤ c)
  (hm : ∀ l k C,BM (l,k,(l.length : Int)) C = some (l,k)) :
  ∀ (r p : List X) (k : Int),(∀ x ∈ r,P x) → 0 ≤ k → k + c * r.length ≤ MkMax → p.length + r.length ≤ 1048576 → ∃ k' r',
   r'.length = r.length ∧ k ≤ k' ∧ k' ≤ k + c * r.length ∧ (∀ n,r.length < n → forG BM n (p ++ r,k,(p.length : Int)) = some (p ++ r',k'))
 | [],p,k,_,h0,hk,hl=>by
  refine ⟨k,[],rfl,Int.le_refl _,by simp,fun n hn=>?_⟩
  obtain ⟨m,rfl⟩ : ∃ m,n = m + 1:=⟨n - 1,by simp at hn; omega⟩
  have:=hm p k (forG BM m)
  simpa [forG] using this
 | x :: t,p,k,hP,h0,hk,hl=>by
  have hlen : ((x :: t).length : Int) = t.length + 1:=by simp
  have hmul : c * ((x :: t).length : Int) = c * t.length + c:=by rw [hlen,Int.mul_add,Int.mul_one]
  have hpos : 0 ≤ c * (t.length : Int):=Int.mul_nonneg hc (by omega)
  rw [hmul] at hk ⊢
  have hl' : p.length + (t.length + 1) ≤ 1048576:=by simpa using hl
  obtain ⟨k1,x',e1,g1,g2⟩:=hs p.length x k (hP x (by simp)) h0 (by omega) (by omega)
  obtain ⟨k2,t',q1,q2,q3,q4⟩:=mk_loopo hs hc hm t (p ++ [x']) k1 (fun y hy=>hP y (by simp [hy])) (by omega) (by omega) (by simp; omega)
  refine ⟨k2,x' :: t',by simp [q1],by omega,by omega,fun n hn=>?_⟩
  obtain ⟨m,rfl⟩ : ∃ m,n = m + 1:=⟨n - 1,by simp at hn; omega⟩
  have a:=e1 (p ++ x :: t) (forG BM m) (by simp) (getD_mid p x t zm)
  rw [set_mid] at a
  have b:=q4 m (by simp at hn; omega)
  simp only [List.append_assoc,List.cons_append,List.nil_append,List.length_append,List.length_cons,List.length_nil,Nat.zero_add] at b
  simp only [forG]; rw [a]; exact b
theorem mk_sliceo (hs : MkStepo zm BM c P) (hc : 0 ≤ c)
  (hm : ∀ l k C,BM (l,k,(l.length : Int)) C = some (l,k))
  (l : List X) (k : Int) (hP : l.length ≤ 1048576 ∧ ∀ x ∈ l,P x) (h0 : 0 ≤ k) (hk : k + c * 1048576 ≤ MkMax) : ∃ k' l',
   forG BM ((l.length : Int).toNat + 1) (l,k,0) = some (l',k') ∧ k ≤ k' ∧ k' ≤ k + c * 1048576:=by
 have hmul : c * (l.length : Int) ≤ c * 1048576:=Int.mul_le_mul_of_nonneg_left (by omega) hc
 obtain ⟨k',l',e1,g1,g2,e2⟩:=mk_loopo hs hc hm l [] k hP.2 h0 (by omega) (by simpa using hP.1)
 refine ⟨k',l', ?_,g1,by omega⟩
 have:=e2 ((l.length : Int).toNat + 1) (by simp)
 simpa using this
end
theorem not3 : (!((3 : Nat) == 0)) = true:=rfl
theorem not10 : (!((10 : Nat) == 0)) = true:=rfl
theorem text_loop {B : Int × List UInt8 → (Int × List UInt8 → Option (List UInt8)) → Option (List UInt8)} (d : Int → UInt8)
  (h1 : ∀ k s C,0 < k → k ≤ 9000000000000000000 → s.length ≤ 100 → B (k,s) C = C (k.tdiv 10,d k :: s)) (h2 : ∀ s C,B (0,s) C = some s) :
  ∀ (m : Nat) (k : Int) (s : List UInt8) (n : Nat),0 ≤ k → k ≤ 9000000000000000000 → k < 10 ^ m → s.length + m ≤ 100 → k.toNat < n → ∃ t,forG B n (k,s) = some t ∧ t.length ≤ 100
 | 0,k,s,n,h0,hk2,hk,hs,hn=>by
  have : k = 0:=by simp at hk; omega
  subst this
  obtain ⟨j,rfl⟩ : ∃ j,n = j + 1:=⟨n - 1,by omega⟩
  exact ⟨s,h2 s _,by omega⟩
 | m + 1,k,s,n,h0,hk2,hk,hs,hn=>by
  obtain ⟨j,rfl⟩ : ∃ j,n = j + 1:=⟨n - 1,by omega⟩
  by_cases hz : k = 0
  ·subst hz; exact ⟨s,h2 s _,by omega⟩
  have hd : k.tdiv 10 = k / 10:=Int.tdiv_eq_ediv_of_nonneg h0
  have hk' : k < 10 ^ m * 10:=by rw [← Int.pow_succ]; exact hk
  obtain ⟨t,e,g⟩:=text_loop d h1 h2 m (k.tdiv 10) (d k :: s) j (by rw [hd]; omega) (by rw [hd]; omega) (by rw [hd]; generalize (10 : Int) ^ m = w at *; omega) (by simp; omega) (by rw [hd]; omega)
  exact ⟨t,by simp only [forG]; rw [h1 k s _ (by omega) hk2 (by omega)]; exact e,g⟩
end Go.Ev
end
