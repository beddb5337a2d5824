import Derived.Test.YtmigbnokhhdopaaRrEvE
import Derived.Test.YtmigbnokhhdopaaRrEvA
import Derived.Orders
set_option linter.unusedSimpArgs false
set_option linter.unusedVariables false
section
namespace Go.Ev
open Go.RowKit (Below)
section
variable {P : Program} {w0 : Base} {G0 : Nat → Prop} {N : Nat} {F : List (Nat × Obj)} {m : St} {e : Env} {a : Act} {Γ : Tab} {Δ : List (Nat × Con)} {k : Nat} {ρ : Type}
theorem undef_sv : Sv m (.tup []) undef:=⟨[],rfl,trivial⟩
theorem run_v {s : Sem Value} {w w' : World} {v : Value} (h : s.run P w = .ok v w') : (do pure (Next.value (← s)) : Sem Next).run P w = .ok (.value v) w':=by
 simp only [Sem.run_bind,h,Result.andThen_ok,Sem.run_pure]
theorem run_u {s : Sem Unit} {w w' : World} (h : s.run P w = .ok () w') : (do s; pure Next.skip : Sem Next).run P w = .ok .skip w':=by
 simp only [Sem.run_bind,h,Result.andThen_ok,Sem.run_pure]
theorem valAll_sv (hR : Rel w0 G0 N F m e a.tmps) : ∀ (l : List Operand) (vs : List SV),valAll e l = some vs → R2 (Sv m) vs (l.map a.eval)
 | [],vs,h=>by simp only [valAll,Option.some.injEq] at h; subst h; trivial
 | o :: r,vs,h=>by
  simp only [valAll] at h
  cases ho : e.val o with
  | none=>simp [ho] at h
  | some v =>
   cases hr : valAll e r with
   | none=>simp [ho,hr] at h
   | some l =>
    simp only [ho,hr,Option.some.injEq] at h
    subst h
    exact ⟨y145q hR ho,valAll_sv hR r l hr⟩
theorem caps_sv : ∀ (cs : List Cap) (l : List Value),R2 (Cp m) cs l → R2 (Sv m) (cs.map capSV) l
 | [],[],_=>trivial
 | c :: cs,v :: l,⟨h1,h2⟩=>by
  refine ⟨?_,caps_sv cs l h2⟩
  cases c with
  | loc id=>exact h1
  | el t x =>
   obtain ⟨b,o,cs',e,h⟩:=h1
   exact ⟨b,o,cs',by simpa using e,h⟩
 | [],_ :: _,h=>by simp [R2] at h
 | _ :: _,[],h=>by simp [R2] at h
def Onw (w0 : Base) (G0 : Nat → Prop) (N : Nat) (F : List (Nat × Obj)) (m : St) (e : Env) (tm : Array Value) (rd : Bool) {ρ : Type} (K : SV → Env → Option ρ) (r : ρ) (m' : St) (e' : Env) (s : SV) (v : Value) : Prop :=
 Stp m e m' e' ∧ (rd = true → ∀ i,i ≠ e.next → find e'.objs i = find e.objs i) ∧ Rel w0 G0 N F m' e' tm ∧ Sv m' s v ∧ K s e' = some r
theorem builtin_sound (hΓ : TabOk P Γ) (hR : Rel w0 G0 N F m e a.tmps) (hfr : ¬ m.D e.next) {b : Builtin} {ts : Array TypeId} {type : TypeId} {consts : Array Bool} {vs : List SV} {args : List Value} {K : SV → Env → Option ρ} {r : ρ} (hvs : R2 (Sv m) vs args)
  (ats : Array Operand) (h : evBuiltin Γ b (nilFirst ats.toList) ts.toList vs e K = some r) (us : Array TypeId) : ∃ m' e' s v,(builtin b ts type consts args.toArray).run P m.w = .ok (.value v) m'.w ∧ Onw w0 G0 N F m e a.tmps (reads (.call ⟨.builtin b,ats,us⟩)) K r m' e' s v:=by
 have same : ∀ i,i ≠ e.next → find e.objs i = find e.objs i:=fun _ _=>rfl
 unfold evBuiltin at h
 split at h
 ·rename_i v
  cases args with
  | nil=>exact absurd hvs (by simp [R2])
  | cons u l =>
   cases l with
   | cons=>exact absurd hvs.2 (by simp [R2])
   | nil =>
    cases hts : ts.toList with
    | nil=>simp [hts] at h
    | cons T tl =>
     simp only [hts] at h
     cases hf : find Γ T with
     | none=>simp [hf] at h
     | some ti =>
      simp only [hf] at h
      cases hl : lenOf e ti.ty v with
      | none=>simp [hl] at h
      | some n =>
       simp only [hl] at h
       have hT : ts[0]? = some T:=by rw [← Array.getElem?_toList,hts]; rfl
       exact ⟨m,e, .one (.i .i64 n),_,run_v (len_sound hΓ hR hf hl hvs.1 ts hT type), .refl m e,fun _=>same,hR,rfl,h⟩
 ·rename_i s x
  cases args with
  | nil=>exact absurd hvs (by simp [R2])
  | cons u l =>
   cases l with
   | nil=>exact absurd hvs.2 (by simp [R2])
   | cons u2 l =>
    cases l with
    | cons=>exact absurd hvs.2.2 (by simp [R2])
    | nil =>
     split at h
     ·rename_i T U hts
      cases hTU : Nat.beq T U with
      | false=>simp [hTU] at h
      | true =>
       simp only [hTU] at h
       have:=Nat.eq_of_beq_eq_true hTU
       subst this
       have hts' : ts = #[T,T]:=by
        apply Array.ext'
        rw [hts]
       subst hts'
       cases hkd : nilFirst ats.toList with
       | false =>
        simp only [hkd] at h
        obtain ⟨m',e',s',v',g1,g2,g3,g4,g5⟩:=evAppend_sound (P:=P) (ty:=type) hΓ hR h hvs.1 hvs.2.1 hfr
        exact ⟨m',e',s',v',run_v g1,g2,fun hr=>by simp [reads,hkd] at hr,g3,g4,g5⟩
       | true =>
        simp only [hkd] at h
        split at h
        ·obtain ⟨m',e',s',v',g1,g2,gk,g3,g4,g5⟩:=evAppendN_sound (P:=P) (ty:=type) hΓ hR h hvs.2.1 hfr
         have h0:=hvs.1
         simp only [Sv,Lv] at h0
         rw [h0]
         exact ⟨m',e',s',v',run_v g1,g2,fun _=>gk,g3,g4,g5⟩
        ·cases h
     ·simp at h
 ·rename_i kk x j y
  cases args with
  | nil=>exact absurd hvs (by simp [R2])
  | cons u l =>
   cases l with
   | nil=>exact absurd hvs.2 (by simp [R2])
   | cons u2 l =>
    cases l with
    | cons=>exact absurd hvs.2.2 (by simp [R2])
    | nil =>
     have h1 : u = .int kk x:=hvs.1
     have h2 : u2 = .int j y:=hvs.2.1
     subst h1; subst h2
     cases hk : kEq kk j with
     | false=>simp [hk] at h
     | true =>
      simp only [hk] at h
      exact ⟨m,e, .one (.i kk (min x y)),_,run_v (Lib.run_min_ints m.w ts type kk j x y), .refl m e,fun _=>same,hR,rfl,h⟩
 ·rename_i kk x j y
  cases args with
  | nil=>exact absurd hvs (by simp [R2])
  | cons u l =>
   cases l with
   | nil=>exact absurd hvs.2 (by simp [R2])
   | cons u2 l =>
    cases l with
    | cons=>exact absurd hvs.2.2 (by simp [R2])
    | nil =>
     have h1 : u = .int kk x:=hvs.1
     have h2 : u2 = .int j y:=hvs.2.1
     subst h1; subst h2
     cases hk : kEq kk j with
     | false=>simp [hk] at h
     | true =>
      simp only [hk] at h
      exact ⟨m,e, .one (.i kk (max x y)),_,run_v (Lib.run_max_ints m.w ts type kk j x y), .refl m e,fun _=>same,hR,rfl,h⟩
 ·simp at h
theorem fieldTys_get : ∀ (fs : List Field) (t : Ty) (i o : Nat) {q : Nat × Ty},y35q Γ fs t o = true → partTy t i o = some q → ∃ f tf,fs[i]? = some f ∧ f.offset = q.1 ∧ find Γ f.type = some tf ∧ tf.ty = q.2
 | f :: fs, .pair a b,0,o,q,h,hp=>by
  simp only [y35q,Bool.and_eq_true] at h
  simp only [partTy,Option.some.injEq] at hp
  subst hp
  cases hf : find Γ f.type with
  | none=>rw [hf] at h; simp at h
  | some tf =>
   rw [hf] at h
   exact ⟨f,tf,rfl,Nat.eq_of_beq_eq_true h.1.1,hf,y64q h.1.2⟩
 | f :: fs, .pair a b,i + 1,o,q,h,hp=>by
  simp only [y35q,Bool.and_eq_true] at h
  obtain ⟨g,tf,h1,h2,h3,h4⟩:=fieldTys_get fs b i (o + a.size) h.2 hp
  exact ⟨g,tf,by simpa using h1,h2,h3,h4⟩
 | [], .pair _ _,_,_,_,h,_=>by simp [y35q] at h
 | [], .int _,_,_,_,_,hp | [], .bool,_,_,_,_,hp | [], .str,_,_,_,_,hp | [], .sl _,_,_,_,_,hp | [], .unit,_,_,_,_,hp | [], .any,_,_,_,_,hp | [], .osl _ _,_,_,_,_,hp | [], .mp _ _,_,_,_,_,hp | [], .omp _ _,_,_,_,_,hp=>by simp [partTy] at hp
 | _ :: _, .int _,_,_,_,h,_ | _ :: _, .bool,_,_,_,h,_ | _ :: _, .str,_,_,_,h,_ | _ :: _, .sl _,_,_,_,h,_ | _ :: _, .unit,_,_,_,h,_ | _ :: _, .any,_,_,_,h,_ | _ :: _, .osl _ _,_,_,_,h,_ | _ :: _, .mp _ _,_,_,_,h,_ | _ :: _, .omp _ _,_,_,_,h,_=>by simp [y35q] at h
theorem bnd1 {o : Operand} {x : V} (hR : Rel w0 G0 N F m e a.tmps) (h : e.one o = some x) : Lv m x (a.eval o):=y105q hR h
theorem op_sound (hΓ : TabOk P Γ) (hΔ : DelOk P w0.o Δ) (hR : Rel w0 G0 N F m e a.tmps) (hfrs : Fr m e) (o : Oper) {K : SV → Env → Option ρ} {r : ρ} (h : evOp Γ Δ k o.op e K = some r)
  {next : Act → World → Prop} {Q : Exit → Act → World → Prop} (hn : ∀ m' e' s v,Onw w0 G0 N F m e a.tmps (reads o.op) K r m' e' s v → next (a.put o.dst v) m'.w) : o.wp P a m.w next Q:=by
 obtain ⟨dst,op,type,pos,after,guard⟩:=o
 simp only at h hn
 have hfr:=hfrs.one
 have same : ∀ i,i ≠ e.next → find e.objs i = find e.objs i:=fun _ _=>rfl
 have fresh : ∀ (ob : Obj) i,i ≠ e.next → find (e.new ob).objs i = find e.objs i:=fun ob i hi=>by
  simp only [Env.new,y14q]
  rw [if_neg fun e=>hi e.symm]
 cases op with
 | move x =>
  simp only [evOp] at h
  cases hx : e.val x with
  | none=>simp [hx] at h
  | some v =>
   simp only [hx] at h
   exact y24q (by simp only [execOp]; rfl) (hn m e v _ ⟨.refl m e,fun _=>same,hR,y145q hR hx,h⟩)
 | assign x =>
  simp only [evOp] at h
  cases hx : e.val x with
  | none=>simp [hx] at h
  | some v =>
   simp only [hx] at h
   exact y24q (by simp only [execOp]; rfl) (hn m e v _ ⟨.refl m e,fun _=>same,hR,y145q hR hx,h⟩)
 | pick c x y =>
  simp only [evOp] at h
  cases hc : e.one c with
  | none=>simp [hc] at h
  | some v =>
   have hl:=y105q hR hc
   cases v with
   | b z =>
    simp only [Lv] at hl
    simp only [hc] at h
    cases z with
    | true =>
     simp only [br,cond] at h
     cases hx : e.val x with
     | none=>simp [hx] at h
     | some v =>
      simp only [hx] at h
      exact y24q (w':=m.w) (v:=a.eval x) (by simp [execOp,hl,asBool]) (hn m e v _ ⟨.refl m e,fun _=>same,hR,y145q hR hx,h⟩)
    | false =>
     simp only [br,cond] at h
     cases hx : e.val y with
     | none=>simp [hx] at h
     | some v =>
      simp only [hx] at h
      exact y24q (w':=m.w) (v:=a.eval y) (by simp [execOp,hl,asBool]) (hn m e v _ ⟨.refl m e,fun _=>same,hR,y145q hR hx,h⟩)
   | _=>simp [hc] at h
 | alloc T =>
  simp only [evOp] at h
  cases hf : find Γ T with
  | none=>simp [hf] at h
  | some ti =>
   simp only [hf] at h
   obtain ⟨m',v,g1,g2,g3,g4⟩:=alloc_sound hΓ hR hf hfr
   exact y24q (run_v g1) (hn m' _ (.one (.loc e.next 0)) v ⟨g2,fun _=>fresh _,g3,g4,h⟩)
 | box T x =>
  simp only [evOp] at h
  cases hx : e.val x with
  | none=>simp [hx] at h
  | some s =>
   simp only [hx] at h
   cases ht : s.isTup with
   | true=>simp [ht] at h
   | false =>
    simp only [ht] at h
    obtain ⟨m',v,g1,g2,g3,g4⟩:=box_sound (P:=P) (T:=T) hR (y145q hR hx) ht hfr
    exact y24q (run_v g1) (hn m' _ (.one (.loc e.next 0)) v ⟨g2,fun _=>fresh _,g3,g4,h⟩)
 | makeInterface T x =>
  simp only [evOp] at h
  cases hf : find Γ T with
  | none=>simp [hf] at h
  | some ti =>
   cases hx : e.one x with
   | none=>simp [hf,hx] at h
   | some v =>
    have hl:=y105q hR hx
    cases v with
    | row id =>
     simp only [hf,hx] at h
     cases ht : ti.ty.era with
     | sl t =>
      rw [ht] at h
      simp only at h
      obtain ⟨t',ht',_⟩:=era_sl ht
      obtain ⟨hu,_⟩:=y65q hΓ hf ht'
      obtain ⟨hid,hv,A,n,c,hs⟩:=hl
      refine y24q (w':=m.w) (v:=.iface T (a.eval x)) ?_ (hn m e (.one (.ifc T id)) _ ⟨.refl m e,fun _=>same,hR,⟨hid,by rw [hv],A,n,c,by rw [← hv]; exact hs⟩,h⟩)
      exact run_v (by simp [Instr.makeInterface,run_underlying hu])
     | _=>rw [ht] at h; simp at h
    | _=>simp [hf,hx] at h
 | build T parts =>
  simp only [evOp] at h
  cases hf : find Γ T with
  | none=>simp [hf] at h
  | some ti =>
   simp only [hf] at h
   cases h0 : Nat.beq ti.elem 0 with
   | true =>
    rw [h0] at h
    simp only at h
    cases hb : evBuild ti e parts.toList (zeros ti.ty []) with
    | none=>simp [hb] at h
    | some l =>
     simp only [hb] at h
     cases ha : ti.ty.isAgg with
     | false=>simp [ha] at h
     | true =>
      simp only [ha] at h
      obtain ⟨v,g1,g2⟩:=build_sound hΓ hR hf (Nat.eq_of_beq_eq_true h0) ha parts hb
      exact y24q (run_v g1) (hn m e _ v ⟨.refl m e,fun _=>same,hR,g2,h⟩)
   | false =>
    rw [h0] at h
    simp only at h
    cases hj : find Γ ti.elem with
    | none=>simp [hj] at h
    | some tj =>
     simp only [hj] at h
     cases hb : evBuildA tj.ty.size e parts.toList (zeros ti.ty []) with
     | none=>simp [hb] at h
     | some l =>
      simp only [hb] at h
      cases ha : ti.ty.isAgg with
      | false=>simp [ha] at h
      | true =>
       simp only [ha] at h
       obtain ⟨v,g1,g2⟩:=buildA_sound hΓ hR hf (fun e=>by rw [e] at h0; simp at h0) hj ha parts hb
       exact y24q (run_v g1) (hn m e _ v ⟨.refl m e,fun _=>same,hR,g2,h⟩)
 | buildSlice T n parts =>
  simp only [evOp] at h
  cases hf : find Γ T with
  | none=>simp [hf] at h
  | some ti =>
   simp only [hf] at h
   cases hj : find Γ ti.elem with
   | none=>simp [hj] at h
   | some tj =>
    simp only [hj] at h
    cases hnd : nodupN (y120q tj.ty e parts.toList) with
    | false=>simp [hnd] at h
    | true =>
    cases hb : evElems tj.ty e.objs (partEnv tj.ty e parts.toList) 0 parts.toList with
    | none=>simp [hnd,hb] at h
    | some xs =>
     simp only [hnd,hb] at h
     cases h1 : Nat.beq (lenN parts.toList) n with
     | false=>simp [h1] at h
     | true =>
      cases h2 : Nat.ble (n * tj.ty.size) 16777216 with
      | false=>simp [h1,h2] at h
      | true =>
       simp only [h1,h2] at h
       cases h3 : isSl ti.ty tj.ty with
       | false=>simp [h3] at h
       | true =>
        simp only [h3] at h
        obtain ⟨hu,hpos,_⟩:=y65q hΓ hf (isSl_of h3)
        obtain ⟨m',v,g1,g2,g3,g4⟩:=buildSlice_sound hΓ hR hf hu hj hpos n parts hnd hb h1 h2 hfr
        exact y24q (run_v g1) (hn m' _ (.one (.row e.next)) v ⟨g2,fun hr=>by simp [reads] at hr,g3,g4,h⟩)
 | load T x =>
  simp only [evOp] at h
  cases hx : e.one x with
  | none=>simp [hx] at h
  | some v =>
   simp only [hx] at h
   obtain ⟨sv,z,g1,g2,g3⟩:=load_sound hΓ hR h (y105q hR hx)
   exact y24q (run_v g1) (hn m e sv z ⟨.refl m e,fun _=>same,hR,g2,g3⟩)
 | makeMap T rs =>
  simp only [evOp] at h
  cases rs with
  | some=>simp at h
  | none =>
   cases hf : find Γ T with
   | none=>simp [hf] at h
   | some ti =>
    simp only [hf] at h
    cases ht : ti.ty with
    | omp k v =>
     rw [ht] at h
     simp only at h
     obtain ⟨m',z,g1,g2,g3,g4⟩:=makeMap_sound (P:=P) (T:=T) hR k v hfr
     exact y24q (run_v g1) (hn m' _ (.one (.map e.next)) z ⟨g2,fun _=>fresh _,g3,g4,h⟩)
    | _=>rw [ht] at h; simp at h
 | mapUpdate T x y z =>
  simp only [evOp] at h
  cases hf : find Γ T with
  | none=>simp [hf] at h
  | some ti =>
   cases hx : e.one x with
   | none=>simp [hf,hx] at h
   | some p =>
    cases hy : e.val y with
    | none=>simp [hf,hx,hy] at h
    | some v =>
     cases hz : e.val z with
     | none=>simp [hf,hx,hy,hz] at h
     | some u =>
      simp only [hf,hx,hy,hz] at h
      obtain ⟨m',e',g1,g2,g3,g4⟩:=mapSet_sound hΓ hR hf h (y105q hR hx) (y145q hR hy) (y145q hR hz)
      exact wp_skip' (run_u g1) (hn m' e' _ _ ⟨g2,fun hr=>by simp [reads] at hr,g3,undef_sv,g4⟩)
 | lookup T x y ok =>
  simp only [evOp] at h
  cases hf : find Γ T with
  | none=>simp [hf] at h
  | some ti =>
   cases hx : e.one x with
   | none=>simp [hf,hx] at h
   | some p =>
    cases hy : e.val y with
    | none=>simp [hf,hx,hy] at h
    | some v =>
     simp only [hf,hx,hy] at h
     obtain ⟨s,z,g1,g2,g3⟩:=lookup_sound hΓ hR hf h (y105q hR hx) (y145q hR hy)
     exact y24q (run_v g1) (hn m e s z ⟨.refl m e,fun _=>same,hR,g2,g3⟩)
 | store T x y =>
  simp only [evOp] at h
  cases hx : e.one x with
  | none=>simp [hx] at h
  | some p =>
   cases hy : e.val y with
   | none=>simp [hx,hy] at h
   | some v =>
    simp only [hx,hy] at h
    cases hos : ownStore Γ T p v e with
    | some e' =>
     rw [hos] at h
     obtain ⟨m',g1,g2,g3⟩:=ownStore_sound (P:=P) hΓ hR hfrs hos (y105q hR hx) (y145q hR hy)
     exact wp_skip' (run_u g1) (hn m' e' _ _ ⟨g2,fun hr=>by simp [reads] at hr,g3,undef_sv,h⟩)
    | none =>
    rw [hos] at h
    simp only at h
    obtain ⟨m',e',g1,g2,_,g3,g4⟩:=store_sound hΓ hR h (y105q hR hx) (y145q hR hy)
    exact wp_skip' (run_u g1) (hn m' e' _ _ ⟨g2,fun hr=>by simp [reads] at hr,g3,undef_sv,g4⟩)
 | nilCheck x =>
  simp only [evOp] at h
  cases hx : e.one x with
  | none=>simp [hx] at h
  | some v =>
   have hl:=y105q hR hx
   cases v with
   | loc id off =>
    simp only [hx] at h
    refine y24q (w':=m.w) (v:=a.eval x) ?_ (hn m e (.one (.loc id off)) _ ⟨.refl m e,fun _=>same,hR,hl,h⟩)
    simp only [execOp,hl.2]; rfl
   | el t y off =>
    simp only [hx] at h
    refine y24q (w':=m.w) (v:=a.eval x) ?_ (hn m e (.one (.el t y off)) _ ⟨.refl m e,fun _=>same,hR,hl,h⟩)
    obtain ⟨b,o,cs,e1,_⟩:=hl
    simp only [execOp,e1]; rfl
   | rel id sz j off =>
    simp only [hx] at h
    refine y24q (w':=m.w) (v:=a.eval x) ?_ (hn m e (.one (.rel id sz j off)) _ ⟨.refl m e,fun _=>same,hR,hl,h⟩)
    obtain ⟨_,b,n,c,_,_,e1⟩:=hl
    simp only [execOp,e1]; rfl
   | _=>simp [hx] at h
 | binOp op T x y yT =>
  simp only [evOp] at h
  cases hf : find Γ T with
  | none=>simp [hf] at h
  | some ti =>
   cases hx : e.val x with
   | none=>simp [hf,hx] at h
   | some u =>
    cases hy : e.val y with
    | none=>simp [hf,hx,hy] at h
    | some v =>
     simp only [hf,hx,hy] at h
     cases h00 : (ti.ty.isAgg && !Nat.beq ti.elem 0) with
     | true=>rw [h00] at h; simp at h
     | false =>
     rw [h00] at h
     simp only at h
     obtain ⟨sv,z,g1,g2,g3⟩:=evBin_sound (m:=m) hΓ hf h00 h (y145q hR hx) (y145q hR hy) x y m.w
     exact y24q (run_v g1) (hn m e sv z ⟨.refl m e,fun _=>same,hR,g2,g3⟩)
 | unOp op T x =>
  simp only [evOp] at h
  cases hx : e.one x with
  | none=>simp [hx] at h
  | some v =>
   simp only [hx] at h
   obtain ⟨sv,z,g1,g2,g3⟩:=evUn_sound (P:=P) (m:=m) h (y105q hR hx) m.w
   exact y24q (run_v g1) (hn m e sv z ⟨.refl m e,fun _=>same,hR,g2,g3⟩)
 | convert src dst' x =>
  simp only [evOp] at h
  cases hs : find Γ src with
  | none=>simp [hs] at h
  | some tj =>
   cases hd : find Γ dst' with
   | none=>simp [hs,hd] at h
   | some ti =>
    cases hx : e.one x with
    | none=>simp [hs,hd,hx] at h
    | some v =>
     simp only [hs,hd,hx] at h
     obtain ⟨m',sv,z,g1,g2,_,g3,g4,g5⟩:=conv_sound hΓ hR hs hd h (y105q hR hx)
     exact y24q (run_v g1) (hn m' e sv z ⟨g2,fun _=>same,g3,g4,g5⟩)
 | makeFunc fn first caps =>
  cases fn with
  | func f =>
   simp only [evOp] at h
   cases hfi : first.toList with
   | cons=>simp [hfi] at h
   | nil =>
    cases hc : evCaps e caps.toList with
    | none=>simp [hfi,hc] at h
    | some l =>
     simp only [hfi,hc] at h
     have hcs:=caps_sound hR _ _ hc
     have hf0 : first = #[]:=by apply Array.ext'; rw [hfi]
     subst hf0
     refine y24q (w':=m.w) (v:=.func (.func f) #[] (caps.map a.eval)) (run_v (by simp [Instr.makeFunc])) (hn m e (.one (.clo f l)) _ ⟨.refl m e,fun _=>same,hR,⟨caps.toList.map a.eval, ?_,hcs⟩,h⟩)
     congr 1
     apply Array.ext'
     simp
  | _=>simp [evOp] at h
 | makeSlice T l c =>
  simp only [evOp] at h
  cases hf : find Γ T with
  | none=>simp [hf] at h
  | some ti =>
   simp only [hf] at h
   cases hj : find Γ ti.elem with
   | none=>simp [hj] at h
   | some tj =>
    simp only [hj] at h
    cases h3 : isSl ti.ty tj.ty && tj.ty.noMp with
    | false=>simp [h3] at h
    | true =>
     simp only [h3] at h
     obtain ⟨h3,hnm⟩:=Bool.and_eq_true_iff.1 h3
     cases hl : e.one l with
     | none=>simp [hl] at h
     | some vl =>
      cases hc : e.one c with
      | none=>cases vl <;> simp [hl,hc] at h
      | some vc =>
       have l1:=y105q hR hl
       have l2:=y105q hR hc
       cases vl with
       | i kl n =>
        cases vc with
        | i kc n' =>
         simp only [hl,hc] at h
         obtain ⟨e1,k1⟩:=chk_some h
         obtain ⟨h0,k2⟩:=y25q k1
         obtain ⟨hcap,k3⟩:=y25q k2
         have e1' : n = n':=by simpa using e1
         clear h k1 k2
         subst e1'
         simp only [Lv] at l1 l2
         obtain ⟨hu,hpos,_⟩:=y65q hΓ hf (isSl_of h3)
         obtain ⟨m',v,g1,g2,g3,g4⟩:=makeSlice_sound hΓ hR hf hu hj hpos hnm kl kc h0 hcap hfr
         refine y24q (w':=m'.w) (v:=v) ?_ (hn m' _ (.one (.row e.next)) v ⟨g2,fun _=>fresh _,g3,g4,k3⟩)
         simp only [execOp,l1,l2]
         exact run_v g1
        | _=>simp [hl,hc] at h
       | _=>simp [hl] at h
 | slice T x lo hi mx =>
  cases mx with
  | some=>simp [evOp] at h
  | none =>
   simp only [evOp] at h
   cases hf : find Γ T with
   | none=>simp [hf] at h
   | some ti =>
    cases hx : e.one x with
    | none=>simp [hf,hx] at h
    | some v =>
     simp only [hf,hx] at h
     have hl:=y105q hR hx
     unfold evSlice at h
     cases hlo : bound e lo with
     | none=>simp [hlo] at h
     | some l =>
      cases hhi : bound e hi with
      | none=>simp [hlo,hhi] at h
      | some hh =>
       simp only [hlo,hhi] at h
       cases v with
       | s y =>
        simp only at h
        cases ht : tyEq ti.ty .str with
        | false=>simp [ht] at h
        | true =>
         simp only [ht] at h
         obtain ⟨s,e1,rfl⟩:=hl
         obtain ⟨sv,z,g1,g2,g3⟩:=sliceS_sound hΓ hf (y64q ht) hR hlo hhi h
         refine y24q (w':=m.w) (v:=z) ?_ (hn m e sv z ⟨.refl m e,fun _=>same,hR,g2,g3⟩)
         simp only [execOp,e1]
         exact run_v g1
       | sl t xs =>
        simp only at h
        cases ht : tyEq ti.ty.era (.sl t) with
        | false=>simp [ht] at h
        | true =>
         simp only [ht] at h
         obtain ⟨sv,z,g1,g2,g3⟩:=sliceN_sound hΓ hf (y64q ht) hl hR hlo hhi h
         exact y24q (run_v g1) (hn m e sv z ⟨.refl m e,fun _=>same,hR,g2,g3⟩)
       | row id =>
        simp only at h
        obtain ⟨hid,hv,A0,n0,c0,hs0⟩:=hl
        cases ho : e.obj id with
        | none=>simp [ho] at h
        | some o =>
         have hob:=(hR.obj id _ ho).2
         cases o with
         | row U t q xs =>
          simp only [ho] at h
          cases ht : isSl ti.ty t with
          | false=>simp [ht] at h
          | true =>
           simp only [ht] at h
           have hν : ∃ A c,m.ν id = .slice A xs.length c ∧ xs.length ≤ c:=by
            rcases hob.1 with ⟨e1,rfl⟩ | ⟨b,c,cs,e1,_,hc,_⟩
            ·exact ⟨none,0,e1,Nat.le_refl _⟩
            ·exact ⟨_,c,e1,hc⟩
           obtain ⟨A,c,hν,hc⟩:=hν
           have hA0 : A = A.map (·.add (0 * t.size)):=by
            rcases hob.1 with ⟨e1,_⟩ | ⟨b,c',cs,e1,_⟩
            ·rw [hν] at e1
             simp only [Value.slice.injEq] at e1
             rw [e1.1]; rfl
            ·rw [hν] at e1
             simp only [Value.slice.injEq] at e1
             rw [e1.1]
             simp only [Option.map_some,y47q,Nat.zero_mul,Nat.add_zero]
           obtain ⟨sv,z,g1,g2,g3⟩:=sliceR_sound (A':=A) (c':=c) (len:=xs.length) (lo:=0) hΓ hf ht hid hob.1 hν (by omega) hc (fun _=>hA0) (fun _=>⟨rfl,rfl⟩) hR hlo hhi h
           rw [hν] at hv
           refine y24q (w':=m.w) (v:=z) ?_ (hn m e sv z ⟨.refl m e,fun _=>same,hR,g2,g3⟩)
           simp only [execOp,hv]
           exact run_v g1
         | frow t xs =>
          simp only [ho] at h
          cases ht : tyEq ti.ty.era (.sl t) with
          | false=>simp [ht] at h
          | true =>
           simp only [ht] at h
           have hv' : Val m.w m.G (.sl t) xs [a.eval x]:=by rw [hv]; exact hob
           obtain ⟨sv,z,g1,g2,g3⟩:=sliceN_sound hΓ hf (y64q ht) hv' hR hlo hhi h
           exact y24q (run_v g1) (hn m e sv z ⟨.refl m e,fun _=>same,hR,g2,g3⟩)
         | _=>simp [ho] at h
       | rng id sz lo' hi' =>
        simp only at h
        have hl0:=hl
        obtain ⟨hid,hle,A,n,c,A',c',hν,hn',hv,hc',hA,h0⟩:=hl
        cases ho : e.obj id with
        | none=>simp [ho] at h
        | some o =>
         have hob:=(hR.obj id _ ho).2
         cases o with
         | row U t q xs =>
          simp only [ho] at h
          cases ht : isSl ti.ty t && Nat.beq sz t.size with
          | false=>simp [ht] at h
          | true =>
           simp only [ht] at h
           rw [Bool.and_eq_true] at ht
           have hz:=Nat.eq_of_beq_eq_true ht.2
           subst hz
           obtain ⟨sv,z,g1,g2,g3⟩:=sliceR_sound (A':=A') (c':=c') (len:=hi' - lo') (lo:=lo') hΓ hf ht.1 hid hob.1 hν (by omega) hc' (fun hh=>hA (by omega)) h0 hR hlo hhi h
           refine y24q (w':=m.w) (v:=z) ?_ (hn m e sv z ⟨.refl m e,fun _=>same,hR,g2,g3⟩)
           simp only [execOp,hv]
           exact run_v g1
         | frow t xs =>
          simp only [ho] at h
          cases ht : tyEq ti.ty.era (.sl t) && Nat.beq sz t.size with
          | false=>simp [ht] at h
          | true =>
           simp only [ht] at h
           rw [Bool.and_eq_true] at ht
           have hz:=Nat.eq_of_beq_eq_true ht.2
           have hv':=rng_val (Gd:=m.G) hob hz.symm hl0
           obtain ⟨sv,z,g1,g2,g3⟩:=sliceN_sound hΓ hf (y64q ht.1) hv' hR hlo hhi h
           exact y24q (run_v g1) (hn m e sv z ⟨.refl m e,fun _=>same,hR,g2,g3⟩)
         | _=>simp [ho] at h
       | _=>simp at h
 | fieldAddr T x i =>
  simp only [evOp] at h
  cases hf : find Γ T with
  | none=>simp [hf] at h
  | some ti =>
   simp only [hf] at h
   cases hd : nth ti.offs i with
   | none=>simp [hd] at h
   | some d =>
    cases ha : ti.ty.isAgg with
    | false=>simp [hd,ha] at h
    | true =>
     simp only [hd,ha] at h
     cases hx : e.one x with
     | none=>simp [hx] at h
     | some v =>
      have hl:=y105q hR hx
      cases v with
      | loc id off =>
       simp only [hx] at h
       obtain ⟨hid,e1⟩:=hl
       refine y24q (w':=m.w) (v:=.pointer (some ⟨m.β id,off + d,none⟩)) ?_ (hn m e (.one (.loc id (off + d))) _ ⟨.refl m e,fun _=>same,hR,⟨hid,rfl⟩,h⟩)
       simp only [execOp,e1]
       exact run_v (fieldAt_run hΓ hf hd ha m.w _ _)
      | el t y off =>
       simp only [hx] at h
       obtain ⟨b,o,cs,e1,hH,hc,hv⟩:=hl
       refine y24q (w':=m.w) (v:=.pointer (some ⟨b,o + off + d,none⟩)) ?_ (hn m e (.one (.el t y (off + d))) _ ⟨.refl m e,fun _=>same,hR,⟨b,o,cs,by rw [Nat.add_assoc],hH,hc,hv⟩,h⟩)
       simp only [execOp,e1]
       exact run_v (fieldAt_run hΓ hf hd ha m.w _ _)
      | rel id sz j off =>
       simp only [hx] at h
       obtain ⟨hid,b,n,c,hν,hj,e1⟩:=hl
       refine y24q (w':=m.w) (v:=.pointer (some ⟨b,j * sz + off + d,none⟩)) ?_ (hn m e (.one (.rel id sz j (off + d))) _ ⟨.refl m e,fun _=>same,hR,⟨hid,b,n,c,hν,hj,by rw [Nat.add_assoc]⟩,h⟩)
       simp only [execOp,e1]
       exact run_v (fieldAt_run hΓ hf hd ha m.w _ _)
      | _=>simp [hx] at h
 | field T x i =>
  simp only [evOp] at h
  cases hf : find Γ T with
  | none=>simp [hf] at h
  | some ti =>
   simp only [hf] at h
   cases hg : ti.ty.isAgg && ti.ty.flat && Nat.beq ti.elem 0 with
   | false=>simp [hg] at h
   | true =>
    cases hp : partTy ti.ty i 0 with
    | none=>simp [hg,hp] at h
    | some q =>
     obtain ⟨o,u⟩:=q
     cases hx : e.val x with
     | none=>simp [hg,hp,hx] at h
     | some sv =>
      cases sv with
      | agg l =>
       simp only [hg,hp,hx] at h
       cases hle : Nat.ble u.size (lenN (dropN o l)) with
       | false=>simp [hle] at h
       | true =>
        cases hs : asSV u (takeN u.size (dropN o l)) with
        | none=>simp [hle,hs] at h
        | some s =>
         simp only [hle,hs] at h
         simp only [Bool.and_eq_true] at hg
         obtain ⟨⟨hg1,hg2⟩,hg3⟩:=hg
         obtain ⟨cs,e1,hl⟩:=y145q hR hx
         obtain ⟨fs,hu,hft,_⟩:=(hΓ T ti hf).eqq hg1 hg2 (Nat.eq_of_beq_eq_true hg3)
         obtain ⟨f,tf,hfi,hfo,hff,rfl⟩:=fieldTys_get _ _ _ _ hft hp
         rw [takeN_eq,y101q] at hs
         rw [y125q,y101q] at hle
         have hld:=hl.drop o
         have hlen : tf.ty.size ≤ (cs.drop o).length:=by rw [← hld.length]; exact Nat.le_of_ble_eq_true hle
         obtain ⟨v,hv,hav⟩:=part_run hΓ hff cs.toArray o (c1:=(cs.drop o).take tf.ty.size) (c2:=(cs.drop o).drop tf.ty.size) (by rw [List.take_append_drop]) (by rw [List.length_take]; omega) m.w
         refine y24q (w':=m.w) (v:=v) ?_ (hn m e s v ⟨.refl m e,fun _=>same,hR,asSV_sv hs (hld.take _) hav,h⟩)
         simp only [execOp]
         refine run_v ?_
         unfold Instr.field
         have hfi' : fs[i]? = some f:=by rw [← Array.getElem?_toList]; exact hfi
         simp only [Sem.run_bind,run_underlying hu,Result.andThen_ok,hfi']
         rw [e1]
         simp only [asAgg,Sem.run_pure,Result.andThen_ok,hfo]
         exact hv
      | _=>simp [hg,hp,hx] at h
 | indexAddr T x i =>
  simp only [evOp] at h
  cases hf : find Γ T with
  | none=>simp [hf] at h
  | some ti =>
   cases hx : e.one x with
   | none=>simp [hf,hx] at h
   | some v =>
    cases hi : e.one i with
    | none=>simp [hf,hx,hi] at h
    | some j =>
     have hl:=y105q hR hi
     cases j with
     | i kj n =>
      simp only [hf,hx,hi] at h
      simp only [Lv] at hl
      obtain ⟨sv,z,g1,g2,g3⟩:=indexAddr_sound (k:=kj) hΓ hR hf h (y105q hR hx)
      refine y24q (w':=m.w) (v:=z) ?_ (hn m e sv z ⟨.refl m e,fun _=>same,hR,g2,g3⟩)
      simp only [execOp,hl]
      exact run_v g1
     | _=>simp [hf,hx,hi] at h
 | index T x i =>
  simp only [evOp] at h
  cases hf : find Γ T with
  | none=>simp [hf] at h
  | some ti =>
   cases hx : e.one x with
   | none =>
    cases hi : e.one i with
    | none=>simp [hf,hx,hi] at h
    | some jv =>
     have hl:=y105q hR hi
     cases jv with
     | i kj n =>
      simp only [hf,hx,hi] at h
      cases hv : e.val x with
      | none=>simp [hv] at h
      | some v =>
       simp only [hv] at h
       obtain ⟨z,kk,q,g1,g2,g3⟩:=indexArr_sound (P:=P) (kk:=kj) hΓ hf h (y145q hR hv)
       refine y24q (w':=m.w) (v:=z) ?_ (hn m e (.one (.i kk q)) z ⟨.refl m e,fun _=>same,hR,g2,g3⟩)
       simp only [Lv] at hl
       simp only [execOp,hl]
       exact run_v g1
     | _=>simp [hf,hx,hi] at h
   | some v =>
    cases hi : e.one i with
    | none=>cases v <;> simp [hf,hx,hi] at h
    | some j =>
     have h1:=y105q hR hx
     have hl:=y105q hR hi
     cases v with
     | s y =>
      cases j with
      | i kj n =>
       simp only [hf,hx,hi] at h
       cases ht : tyEq ti.ty .str with
       | false=>simp [ht] at h
       | true =>
        simp only [ht] at h
        obtain ⟨h0,h⟩:=y25q h
        obtain ⟨hlt,h⟩:=y25q h
        simp only [Lv] at hl
        obtain ⟨s,e1,rfl⟩:=h1
        refine y24q (w':=m.w) (v:=_) ?_ (hn m e (.one (.i .u8 ((s.data.toList.getD n.toNat 0).toNat : Nat))) _ ⟨.refl m e,fun _=>same,hR,rfl,h⟩)
        simp only [execOp,hl,e1]
        exact run_v (index_sound (P:=P) hΓ hf (y64q ht) h0 hlt m.w)
      | _=>simp [hf,hx,hi] at h
     | _=>simp [hf,hx] at h
 | extract x i =>
  simp only [evOp] at h
  cases hx : e.val x with
  | none=>simp [hx] at h
  | some v =>
   have hs:=y145q hR hx
   cases v with
   | tup l =>
    simp only [hx] at h
    cases hi : nth l i with
    | none=>simp [hi] at h
    | some p =>
     obtain ⟨z,g1,g2⟩:=extract_sound (P:=P) hs hi m.w
     obtain ⟨bb,vs⟩:=p
     rcases g2 with ⟨hb,cs,e1,hr⟩ | ⟨hb,v',ev,hr⟩
     ·simp only at hb
      subst hb
      simp only [hi] at h
      exact y24q (run_v g1) (hn m e (.agg vs) z ⟨.refl m e,fun _=>same,hR,⟨cs,e1,hr⟩,h⟩)
     ·simp only at hb ev
      subst hb; subst ev
      simp only [hi] at h
      exact y24q (run_v g1) (hn m e (.one v') z ⟨.refl m e,fun _=>same,hR,hr,h⟩)
   | _=>simp [hx] at h
 | call c =>
  obtain ⟨callee,args,ts⟩:=c
  cases callee with
  | builtin b =>
   simp only [evOp] at h
   cases hv : valAll e args.toList with
   | none=>simp [hv] at h
   | some vs =>
    simp only [hv] at h
    obtain ⟨m',e',s,v,g1,g2⟩:=builtin_sound (P:=P) (type:=type) (consts:=args.map fun | .const _=>true | _=>false) hΓ hR hfr (valAll_sv hR _ _ hv) args h ts
    refine y24q (w':=m'.w) (v:=v) ?_ (hn m' e' s v g2)
    have e1 : (args.toList.map a.eval).toArray = args.map a.eval:=by apply Array.ext'; simp
    rw [e1] at g1
    simp only [execOp,resolve,Sem.run_bind,Sem.run_pure,Result.andThen_ok,invoke]
    exact g1
  | value f =>
   simp only [evOp] at h
   cases hx : e.one f with
   | none=>simp [hx] at h
   | some v =>
    have hl:=y105q hR hx
    cases v with
    | clo g caps =>
     cases hv : valAll e args.toList with
     | none=>simp [hx,hv] at h
     | some vs =>
      simp only [hx,hv] at h
      obtain ⟨cv,e1,hc⟩:=hl
      have hvs:=(valAll_sv hR _ _ hv).append (caps_sv _ _ hc)
      have hboth : Enters' P g ∧ Calls P g (args.toList.map a.eval ++ cv).toArray m.w fun en w'=>∃ v m' e' s,en = .returned v ∧ m'.w = w' ∧ Stp m e m' e' ∧ Rel w0 G0 N F m' e' a.tmps ∧ Sv m' s v ∧ K s e' = some r:=by
       cases hsa : sortArgs (vs ++ caps.map capSV) with
       | none =>
        rw [hsa] at h
        exact call_sound (fun f c hm=>⟨(hΔ f c hm).1,(hΔ f c hm).2.1,(hΔ f c hm).2.2.2⟩) hR hfrs hvs h
       | some q =>
        obtain ⟨T,id,hh,cs⟩:=q
        rw [hsa] at h
        have heq : vs ++ caps.map capSV = [.one (.ifc T id), .one (.clo hh cs)]:=by
         unfold sortArgs at hsa
         split at hsa
         ·rename_i T' id' h' cs' he
          simp only [Option.some.injEq,Prod.mk.injEq] at hsa
          obtain ⟨rfl,rfl,rfl,rfl⟩:=hsa
          exact he
         ·cases hsa
        rw [heq] at hvs
        exact sort_sound hΓ hΔ hR hvs h
      obtain ⟨hent,hcall⟩:=hboth
      have hrun : (execOp a.eval ⟨dst, .call ⟨.value f,args,ts⟩,type,pos,after,guard⟩).run P m.w = .ok (.enter g (args.toList.map a.eval ++ cv).toArray) m.w:=by
       simp only [execOp,resolve,e1,Deferred.ofValue,Sem.run_bind,Sem.run_pure,Result.andThen_ok,invoke]
       have e2 : (#[] ++ args.map a.eval ++ cv.toArray) = (args.toList.map a.eval ++ cv).toArray:=by apply Array.ext'; simp
       rw [e2]
       exact hent _ _
      unfold Oper.wp
      rw [hrun,Oper.upon_enter]
      refine Calls.mono hcall ?_
      intro en w' ⟨v,m',e',s,e3,hw,g1,g2,g3,g4⟩
      subst e3; subst hw
      exact hn m' e' s v ⟨g1,fun hr=>by simp [reads] at hr,g2,g3,g4⟩
    | _=>simp [hx] at h
  | invoke r n=>simp [evOp] at h
 | _=>simp [evOp] at h
end
end Go.Ev
end
section
namespace Go.Ev
open Go.RowKit (Below)
def Fresh (m : St) (e : Env) : Prop:=∀ i,m.D i → i < e.next
section
variable {P : Program} {w0 : Base} {G0 : Nat → Prop} {N : Nat} {F : List (Nat × Obj)} {m : St} {e : Env} {tm : Array Value} {Γ : Tab} {Δ : List (Nat × Con)} {k : Nat} {ρ : Type}
theorem Fresh.free (h : Fresh m e) : ¬ m.D e.next:=fun hd=>absurd (h _ hd) (Nat.lt_irrefl _)
theorem Fresh.frs (h : Fresh m e) : Fr m e:=fun i h1 _ hd=>absurd (h i hd) (by omega)
theorem Stp.fresh {m' : St} {e' : Env} (h : Stp m e m' e') (hf : Fresh m e) : Fresh m' e':=by
 intro i hi
 rcases h.D i hi with hi | ⟨_,h2⟩
 ·have:=hf i hi
  have:=h.next
  omega
 ·exact h2
theorem put_next (e : Env) (d : Option Nat) (v : SV) : (e.put d v).next = e.next:=by cases d <;> rfl
theorem put_objs (e : Env) (d : Option Nat) (v : SV) : (e.put d v).objs = e.objs:=by cases d <;> rfl
def dstOk (p : List Nat) (N : Nat) (d : Option Nat) : Bool:=match d with
 | some d=>!memN p d && Nat.blt d N
 | none=>true
def Base.ps (B : Base) : List Nat:=B.pins.map (·.1)
theorem Rel.put (hR : Rel w0 G0 N F m e tm) {d : Option Nat} (hd : dstOk w0.ps N d = true) {sv : SV} {v : Value} (hv : Sv m sv v) : Rel w0 G0 N F m (e.put d sv) ((⟨tm,[]⟩ : Act).put d v).tmps:=by
 cases d with
 | none=>exact hR
 | some d =>
  simp only [dstOk,Bool.and_eq_true] at hd
  refine hR.set (fun u hu=>?_) (Nat.le_of_ble_eq_true hd.2) hv
  have : d ∈ w0.ps:=List.mem_map.2 ⟨(d,u),hu,rfl⟩
  rw [(y81q _ _).2 this] at hd
  simp at hd
theorem put_act (tm : Array Value) (d : Option Nat) (v : Value) : (⟨tm,[]⟩ : Act).put d v = ⟨((⟨tm,[]⟩ : Act).put d v).tmps,[]⟩:=by cases d <;> rfl
theorem yielded_bool {all : List Oper} {ops : Array Oper} (ha : ops.toList = all) {j s : Nat} {g : Oper} (h1 : nth all j = some g) (h2 : g.dst = some s) {x : Bool} (hs : tm[s]? = some (.bool x)) : yielded ops tm j = some x:=by
 rw [nth_eq,← ha,Array.getElem?_toList] at h1
 simp [yielded,h1,h2,hs]
theorem yielded_none {all : List Oper} {ops : Array Oper} (ha : ops.toList = all) {j s : Nat} {g : Oper} (h1 : nth all j = some g) (h2 : g.dst = some s) (hs : tm[s]? = some (.tuple #[])) : yielded ops tm j = none:=by
 rw [nth_eq,← ha,Array.getElem?_toList] at h1
 simp [yielded,h1,h2,hs]
theorem ops_sound (hΓ : TabOk P Γ) (hΔ : DelOk P w0.o Δ) {ops : Array Oper} {all : List Oper} (ha : ops.toList = all) {Q : Exit → Act → World → Prop} {K : Env → Option ρ} {r : ρ}
  (hQ : ∀ m' e' tm',Rel w0 G0 N F m' e' tm' → Fresh m' e' → K e' = some r → Q .normal ⟨tm',[]⟩ m'.w) :
  ∀ (l : List Oper) (m : St) (e : Env) (tm : Array Value),(∀ o ∈ l,dstOk w0.ps N o.dst = true) → Rel w0 G0 N F m e tm → Fresh m e → evOps Γ Δ k all l e K = some r → wpList P ops Q l ⟨tm,[]⟩ m.w
 | [],m,e,tm,_,hR,hf,h=>hQ m e tm hR hf h
 | o :: rest,m,e,tm,hd,hR,hf,h=>by
  have hdo:=hd o List.mem_cons_self
  have hdr : ∀ o ∈ rest,dstOk w0.ps N o.dst = true:=fun o ho=>hd o (List.mem_cons_of_mem _ ho)
  have ih:=ops_sound hΓ hΔ ha hQ rest
  have doit : ∀ e1 : Env,Rel w0 G0 N F m e1 tm → Fresh m e1 → evOp Γ Δ k o.op e1 (fun v e'=>evOps Γ Δ k all rest (e'.put o.dst v) K) = some r → o.wp P ⟨tm,[]⟩ m.w (wpList P ops Q rest) Q:=by
   intro e1 hR1 hf1 h1
   refine op_sound (a:=⟨tm,[]⟩) hΓ hΔ hR1 hf1.frs o h1 ?_
   intro m' e' s v ⟨g1,_,g2,g3,g4⟩
   rw [put_act]
   exact ih m' _ _ hdr (g2.put hdo g3) (by unfold Fresh; rw [put_next]; exact g1.fresh hf1) g4
  have skip : ∀ e1 : Env,Rel w0 G0 N F m e1 tm → Fresh m e1 → evOps Γ Δ k all rest (e1.put o.dst (.tup [])) K = some r → wpList P ops Q rest ((⟨tm,[]⟩ : Act).put o.dst undef) m.w:=by
   intro e1 hR1 hf1 h1
   rw [put_act]
   exact ih m _ _ hdr (hR1.put hdo undef_sv) (by unfold Fresh; rw [put_next]; exact hf1) h1
  unfold wpList
  unfold evOps at h
  cases hg : o.guard with
  | none =>
   rw [hg] at h
   have hw : Region.wanted o (yielded ops tm) = true:=by simp [Region.wanted,hg]
   simp only [hw,if_true]
   exact .inl (doit e hR hf h)
  | some p =>
   obtain ⟨j,want⟩:=p
   rw [hg] at h
   simp only at h
   cases hj : nth all j with
   | none=>simp [hj] at h
   | some g =>
    simp only [hj] at h
    cases hds : g.dst with
    | none=>simp [hds] at h
    | some s =>
     simp only [hds] at h
     cases hs : e.get s with
     | none=>simp [hs] at h
     | some sv =>
      obtain ⟨v,hv,hsv⟩:=hR.slots s sv hs
      have refined : ∀ {sv' : SV},Sv m sv' v → Rel w0 G0 N F m (e.set s sv') tm:=fun hsv'=>hR.reset hv hsv'
      have fr : ∀ sv',Fresh m (e.set s sv'):=fun _=>hf
      cases sv with
      | agg l=>simp [hs] at h
      | tup l =>
       cases l with
       | cons=>simp [hs] at h
       | nil =>
        simp only [hs] at h
        obtain ⟨xs,e1,hx⟩:=hsv
        have : xs = []:=by cases xs with
         | nil=>rfl
         | cons=>exact absurd hx (by simp [R2])
        subst this
        subst e1
        have hw : Region.wanted o (yielded ops tm) = false:=by
         simp only [Region.wanted,hg,yielded_none ha hj hds hv]
         rfl
        simp only [hw,Bool.false_eq_true,if_false]
        exact skip e hR hf h
      | one y =>
       cases y with
       | b x =>
        simp only [hs] at h
        have hvx : v = .bool x:=hsv
        subst hvx
        have hw : Region.wanted o (yielded ops tm) = (x == want):=by
         simp only [Region.wanted,hg,yielded_bool ha hj hds hv]
         cases x <;> cases want <;> rfl
        rw [hw]
        cases x <;> cases want <;> simp only [br,cond] at h
        ·exact .inl (doit _ (refined (sv':=.one (.b false)) rfl) (fr _) h)
        ·exact skip _ (refined (sv':=.one (.b false)) rfl) (fr _) h
        ·exact skip _ (refined (sv':=.one (.b true)) rfl) (fr _) h
        ·exact .inl (doit _ (refined (sv':=.one (.b true)) rfl) (fr _) h)
       | _=>simp [hs] at h
end
end Go.Ev
end
section
namespace Go.Ev
open Go.RowKit (Below)
def PkItem (w : World) (G H : Nat → Prop) (tm : Array Value) : (a : Item) → a.den → List Nat → Prop
 | .val s t,x,bl=>∃ v cs,tm[s]? = some v ∧ AsVal t cs v ∧ Val w G t x cs ∧ Inn w G t x cs bl
 | .var s t,x,bl=>∃ b cs T bl',tm[s]? = some (.pointer (some ⟨b,0,none⟩)) ∧ w.heap[b]? = some (.cells (List.toArray cs) T (0,0)) ∧ Val w G t x cs ∧ Inn w G t x cs bl' ∧ bl = bl' ++ [b]
 | .el s t,x,bl=>∃ v,tm[s]? = some v ∧ PtrH w G H t x v ∧ bl = []
 | .clo s f ts,x,bl=>∃ cv : List Value,tm[s]? = some (.func (.func f) #[] cv.toArray) ∧ CapsH w G H ts x cv ∧ bl = []
 | .clov s f vs,_,bl=>bl = [] ∧ ∃ cv : List Value,tm[s]? = some (.func (.func f) #[] cv.toArray) ∧ R2 (fun v u=>tm[v]? = some u) vs cv
 | .ali s v off,_,bl=>bl = [] ∧ ∃ (b : Nat) (cs : List Value) (T : Nat) (u : Value),tm[v]? = some (.pointer (some ⟨b,0,none⟩)) ∧ w.heap[b]? = some (.cells (List.toArray cs) T (0,0)) ∧ cs[off]? = some u ∧ tm[s]? = some u
def PkAll (w : World) (G H : Nat → Prop) (tm : Array Value) : (l : List Item) → Items.den l → List Nat → Prop
 | [],_,bl=>bl = []
 | [a],x,bl=>PkItem w G H tm a x bl
 | a :: b :: r,x,bl=>∃ b1 b2,bl = b1 ++ b2 ∧ PkItem w G H tm a x.1 b1 ∧ PkAll w G H tm (b :: r) x.2 b2
structure Packed (w0 : Base) (G0 : Nat → Prop) (N : Nat) (w : World) (l : List Item) (y : Items.den l) (tm : Array Value) : Prop where
 size : tm.size = N ∧ ∀ (i : Nat) v,(i,v) ∈ w0.pins → tm[i]? = some v
 base : Kept w0 w
 ex : ∃ (G H : Nat → Prop) (bl : List Nat),PkAll w G H tm l y bl ∧ bl.Nodup ∧ (∀ b ∈ bl,¬ G b ∧ ¬ H b ∧ b < w.heap.size ∧ Mine w0 b) ∧
  (∀ b,G b → b < w.heap.size) ∧ (∀ b,H b → b < w.heap.size) ∧ (∀ b,G b → G0 b ∨ Mine w0 b) ∧ ∀ b,G b → H b
section
variable {P : Program} {w0 : Base} {G0 : Nat → Prop} {N : Nat} {m m1 : St} {e : Env} {tm : Array Value}
theorem capsH_cp {m : St} : ∀ (ts : List Ty) (x : dens ts) (l : List Value),CapsH m.w m.G m.H ts x l → R2 (Cp m) (startCaps ts x) l
 | [],_,l,h=>by simp only [CapsH] at h; subst h; trivial
 | t :: r,x,[],h=>by simp [CapsH] at h
 | t :: r,x,v :: l,⟨h1,h2⟩=>⟨h1,capsH_cp r x.2 l h2⟩
structure Cur (w0 : Base) (G0 : Nat → Prop) (N : Nat) (m : St) (e : Env) (tm : Array Value) (rest : List Nat) : Prop where
 rel : Rel w0 G0 N [] m e tm
 fresh : ∀ i,m.D i → i < e.next
 dis : ∀ i b,blk e.objs m i b → b ∉ rest
 nd : rest.Nodup
 bl : ∀ b ∈ rest,¬ m.G b ∧ ¬ m.H b ∧ b < m.w.heap.size ∧ Mine w0 b
theorem Cur.wait {rest : List Nat} (h : Cur w0 G0 N m e tm rest) (L : Nat) : Wait w0 G0 N [] L m e tm rest :=
 ⟨h.rel,fun i h1 _ hd=>absurd (h.fresh i hd) (by omega),fun i b hb=>h.dis i b (by rwa [List.append_nil] at hb),h.nd,h.bl⟩
theorem Cur.of {m' : St} {e' : Env} {rest : List Nat} {L : Nat} (h : Wait w0 G0 N [] L m' e' tm rest) (hf : ∀ i,m.D i → i < e.next) (hn : e.next ≤ e'.next) (hD : ∀ i,m'.D i → m.D i ∨ (e.next ≤ i ∧ i < e'.next)) : Cur w0 G0 N m' e' tm rest :=
 ⟨h.rel,fun i hi=>(hD i hi).elim (fun h=>Nat.lt_of_lt_of_le (hf i h) hn) fun h=>h.2,fun i b hb=>h.dis i b (by rw [List.append_nil]; exact hb),h.nd,h.bl⟩
theorem Cur.slot {rest : List Nat} (h : Cur w0 G0 N m e tm rest) {s : Nat} {sv : SV} {v : Value} (hs : tm[s]? = some v) (hv : Sv m sv v) : Cur w0 G0 N m (e.set s sv) tm rest :=
 ⟨h.rel.reset hs hv,h.fresh,h.dis,h.nd,h.bl⟩
theorem Cur.openV {t : Ty} {x : t.den} {cs : List Value} {bl rest : List Nat} (h : Cur w0 G0 N m e tm (bl ++ rest)) (hv : Val m.w m.G t x cs) (hi : Inn m.w m.G t x cs bl) :
  ∃ m',Grow m m' ∧ Cur w0 G0 N m' (Ev.openV e t x).1 tm rest ∧ R2 (Lv m') (Ev.openV e t x).2 cs:=by
 obtain ⟨m',g,d,w,r⟩:=y146q (rest:=rest) t x m e cs bl rest hv hi (h.wait (Ev.openV e t x).1.next) (Nat.le_refl _)
 exact ⟨m',g, .of w h.fresh (y68q t e x) d,r⟩
theorem Cur.openT {t : Ty} {x : t.den} {cs : List Value} {bl rest : List Nat} (h : Cur w0 G0 N m e tm (bl ++ rest)) (hv : Val m.w m.G t x cs) (hi : Inn m.w m.G t x cs bl) :
  ∃ m',Grow m m' ∧ Cur w0 G0 N m' (Ev.openT e t x).1 tm rest ∧ R2 (Lv m') (Ev.openT e t x).2 cs:=by
 unfold Ev.openT
 cases ht : t.noOwn with
 | true =>
  have:=hi.is_nil ht
  subst this
  exact ⟨m, .refl m,h,Val.enc hv⟩
 | false=>exact h.openV hv hi
theorem svOf_sv {t : Ty} {l : List V} {cs : List Value} {v : Value} (h : R2 (Lv m) l cs) (ha : AsVal t cs v) : Sv m (svOf t l) v:=by
 unfold svOf
 unfold AsVal at ha
 cases hg : t.isAgg with
 | true=>rw [hg] at ha; exact ⟨cs,ha,h⟩
 | false =>
  rw [hg] at ha
  simp only at ha
  subst ha
  match l,h with
  | [a],h=>exact h.1
theorem Cur.var {b : Nat} {l : List V} {cs : List Value} {T : Nat} {rest : List Nat} (h : Cur w0 G0 N m e tm ([b] ++ rest)) (hh : m.w.heap[b]? = some (.cells cs.toArray T (0,0))) (hr : R2 (Lv m) l cs) :
  ∃ m',Grow m m' ∧ Cur w0 G0 N m' (e.new (.var l)) tm rest ∧ Lv m' (.loc e.next 0) (.pointer (some ⟨b,0,none⟩)):=by
 have hfr : ¬ m.D e.next:=fun hd=>absurd (h.fresh _ hd) (Nat.lt_irrefl _)
 let m' : St:={ m with β:=fun i=>if i = e.next then b else m.β i,D:=fun i=>m.D i ∨ i = e.next }
 have hle : m.le m':=⟨fun b hb=>⟨hb,rfl⟩,fun b hb=>⟨hb,rfl⟩,fun _ h=>.inl h,fun i hi=>if_neg (fun (q : i = e.next)=>hfr (q ▸ hi)),fun _ _=>rfl,fun _ _=>rfl,fun _ _=>rfl⟩
 have hg : Grow m m':=⟨hle,rfl,rfl,rfl⟩
 have hβ : m'.β e.next = b:=if_pos rfl
 have hn:=List.nodup_append.1 h.nd
 obtain ⟨o1,o2,o3,o4⟩:=h.bl b (by simp)
 have hok0 : ObjsOk w0 G0 m e.objs:=by have:=h.rel.ok; rwa [List.append_nil] at this
 have hok : ObjsOk w0 G0 m' ((e.next, .var l) :: e.objs):=hok0.more hle (.inr rfl) _ hok0.base (fun _ _ _=>rfl) (fun b hb=>⟨.inl hb,hok0.liveG b hb⟩) (fun b hb=>⟨.inl hb,hok0.liveH b hb⟩) (Nat.le_refl _) hok0.gh
  ⟨cs,T,by rw [hβ]; exact hh,hr.imp fun _ _ hx=>Lv.le hle hx⟩ fun b' hb=>by
   unfold blk at hb
   rw [y14q,if_pos rfl] at hb
   simp only [hβ] at hb
   subst hb
   exact ⟨o1,o2,o3,o4,fun i hi=>h.dis i _ hi (by simp)⟩
 refine ⟨m',hg,⟨h.rel.push hfr hle _ (by rw [List.append_nil]; exact hok),fun i hi=>?_,fun i b' hb hm=>?_,hn.2.1,fun b hb=>h.bl b (List.mem_append_right _ hb)⟩, .inr rfl,by rw [hβ]⟩
 ·show i < e.next + 1
  rcases hi with hi | hi
  ·have:=h.fresh i hi; omega
  ·omega
 ·have hb : blk ((e.next, .var l) :: e.objs) m' i b':=hb
  by_cases hi : i = e.next
  ·subst hi
   unfold blk at hb
   rw [y14q,if_pos rfl] at hb
   simp only [hβ] at hb
   subst hb
   exact hn.2.2 _ (by simp) _ hm rfl
  ·refine h.dis i b' ?_ (List.mem_append_right _ hm)
   rw [← blk_le hle hok0.objs]
   unfold blk at hb ⊢
   rw [y14q,if_neg fun q=>hi q.symm] at hb
   exact hb
theorem locsOf_cp (hR : Rel w0 G0 N [] m e tm) : ∀ (vs : List Nat) (l : List Cap) (cv : List Value),locsOf e vs = some l → R2 (fun v u=>tm[v]? = some u) vs cv → R2 (Cp m) l cv
 | [],l,[],h,_=>by simp only [locsOf,Option.some.injEq] at h; subst h; trivial
 | v :: r,l,u :: cv,h,⟨h1,h2⟩=>by
  simp only [locsOf] at h
  cases hg : e.get v with
  | none=>simp [hg] at h
  | some sv =>
   obtain ⟨p,hp,hs⟩:=hR.slots v sv hg
   cases hl : locsOf e r with
   | none=>cases sv <;> simp [hg,hl] at h
   | some l' =>
    cases sv with
    | one y =>
     cases y with
     | loc id off =>
      cases off with
      | succ=>simp [hg,hl] at h
      | zero =>
       simp only [hg,hl,Option.some.injEq] at h
       subst h
       rw [h1] at hp
       obtain rfl:=Option.some.inj hp
       exact ⟨hs,locsOf_cp hR r l' cv hl h2⟩
     | _=>simp [hg,hl] at h
    | _=>simp [hg,hl] at h
theorem rowIn_lv (hR : Rel w0 G0 N [] m e tm) {v off i : Nat} (h : rowIn e v off = some i) : ∃ (b : Nat) (cs : List Value) (T : Nat) (u : Value),tm[v]? = some (.pointer (some ⟨b,0,none⟩)) ∧ m.w.heap[b]? = some (.cells (List.toArray cs) T (0,0)) ∧ cs[off]? = some u ∧ Lv m (.row i) u:=by
 unfold rowIn at h
 cases hg : e.get v with
 | none=>simp [hg] at h
 | some sv =>
  obtain ⟨p,hp,hs⟩:=hR.slots v sv hg
  cases sv with
  | one y =>
   cases y with
   | loc id o =>
    cases o with
    | succ=>simp [hg] at h
    | zero =>
     simp only [hg] at h
     cases ho : e.obj id with
     | none=>simp [ho] at h
     | some ob =>
      cases ob with
      | var vs =>
       simp only [ho] at h
       cases hn : nth vs off with
       | none=>simp [hn] at h
       | some z =>
        cases z with
        | row j =>
         simp only [hn,Option.some.injEq] at h
         subst h
         obtain ⟨cs,T,hh,hr⟩:=(hR.obj id _ ho).2
         obtain ⟨u,hu,hl⟩:=hr.get off (.row j) (by rw [← nth_eq]; exact hn)
         exact ⟨m.β id,cs,T,u,by rw [hp,hs.2],hh,hu,hl⟩
        | _=>simp [hn] at h
      | _=>simp [ho] at h
   | _=>simp [hg] at h
  | _=>simp [hg] at h
theorem unpackItem_sound {a : Item} {x : a.den} {bl rest : List Nat} (h : PkItem m.w m.G m.H tm a x bl) (hc : Cur w0 G0 N m e tm (bl ++ rest)) :
  ∃ m',Grow m m' ∧ Cur w0 G0 N m' (y151q e a x) tm rest:=by
 cases a with
 | val s t =>
  obtain ⟨v,cs,hs,ha,hv,hi⟩:=h
  simp only [y151q]
  cases ht : t.noOwn with
  | true =>
   have:=hi.is_nil ht
   subst this
   exact ⟨m, .refl m,hc.slot hs (sv_ofTy hv ha)⟩
  | false =>
   obtain ⟨m',g,hc',r⟩:=hc.openV hv hi
   exact ⟨m',g,hc'.slot hs (svOf_sv r ha)⟩
 | el s t =>
  obtain ⟨v,hs,⟨b,o,cs,e2,hH,hcl,hv⟩,e1⟩:=h
  subst e1
  exact ⟨m, .refl m,hc.slot hs (sv:=.one (.el t x 0)) ⟨b,o,cs,e2,hH,hcl,hv⟩⟩
 | clo s f ts =>
  obtain ⟨cv,hs,hcv,e1⟩:=h
  subst e1
  exact ⟨m, .refl m,hc.slot hs (sv:=.one (.clo f (startCaps ts x))) ⟨cv,rfl,capsH_cp ts x cv hcv⟩⟩
 | clov s f vs =>
  obtain ⟨e1,cv,hs,hcv⟩:=h
  subst e1
  simp only [y151q]
  cases hl : locsOf e vs with
  | none=>exact ⟨m, .refl m,hc⟩
  | some l=>exact ⟨m, .refl m,hc.slot hs (sv:=.one (.clo f l)) ⟨cv,rfl,locsOf_cp hc.rel vs l cv hl hcv⟩⟩
 | ali s v off =>
  obtain ⟨e1,b,cs,T,u,hv,hh,hu,hs⟩:=h
  subst e1
  simp only [y151q]
  cases hl : rowIn e v off with
  | none=>exact ⟨m, .refl m,hc⟩
  | some i =>
   obtain ⟨b',cs',T',u',hv',hh',hu',hlv⟩:=rowIn_lv hc.rel hl
   rw [hv] at hv'
   simp only [Option.some.injEq,Value.pointer.injEq,Addr.mk.injEq,and_true] at hv'
   subst hv'
   rw [hh] at hh'
   simp only [Option.some.injEq,Go.Obj.cells.injEq,and_true] at hh'
   obtain ⟨hcs,_⟩:=hh'
   have hcs:=List.toArray_inj hcs
   subst hcs
   rw [hu] at hu'
   obtain rfl:=Option.some.inj hu'
   exact ⟨m, .refl m,hc.slot hs (sv:=.one (.row i)) hlv⟩
 | var s t =>
  obtain ⟨b,cs,T,bl',hs,hh,hv,hi,e1⟩:=h
  subst e1
  rw [List.append_assoc] at hc
  obtain ⟨m1,g1,hc1,r1⟩:=hc.openT hv hi
  obtain ⟨m2,g2,hc2,l2⟩:=hc1.var (T:=T) (by rw [g1.w]; exact hh) r1
  exact ⟨m2,g1.trans g2,hc2.slot hs (sv:=.one (.loc _ 0)) l2⟩
theorem PkItem.grow {m' : St} (g : Grow m m') {a : Item} {x : a.den} {bl : List Nat} (h : PkItem m.w m.G m.H tm a x bl) : PkItem m'.w m'.G m'.H tm a x bl:=by rw [g.w,g.G,g.H]; exact h
theorem PkAll.grow {m' : St} (g : Grow m m') {l : List Item} {x : Items.den l} {bl : List Nat} (h : PkAll m.w m.G m.H tm l x bl) : PkAll m'.w m'.G m'.H tm l x bl:=by rw [g.w,g.G,g.H]; exact h
theorem unpackAll_sound : ∀ (l : List Item) (x : Items.den l) (m : St) (e : Env) (bl rest : List Nat),PkAll m.w m.G m.H tm l x bl → Cur w0 G0 N m e tm (bl ++ rest) →
  ∃ m',Grow m m' ∧ Cur w0 G0 N m' (unpackAll e l x) tm rest
 | [],x,m,e,bl,rest,h,hc=>by
  simp only [PkAll] at h
  subst h
  exact ⟨m, .refl m,hc⟩
 | [a],x,m,e,bl,rest,h,hc=>unpackItem_sound h hc
 | a :: b :: r,x,m,e,bl,rest,⟨b1,b2,e1,h1,h2⟩,hc=>by
  subst e1
  rw [List.append_assoc] at hc
  obtain ⟨m1,g1,hc1⟩:=unpackItem_sound h1 hc
  obtain ⟨m2,g2,hc2⟩:=unpackAll_sound (b :: r) x.2 m1 _ b2 rest (h2.grow g1) hc1
  exact ⟨m2,g1.trans g2,hc2⟩
theorem y84q {w : World} {l : List Item} {y : Items.den l} (h : Packed w0 G0 N w l y tm) : ∃ m,m.w = w ∧ Rel w0 G0 N [] m (unpack l y) tm ∧ Fresh m (unpack l y):=by
 obtain ⟨G,H,bl,h1,h2,h3,h4,h5,h6,h7⟩:=h.ex
 let m : St:=⟨w,G,H,fun _=>0,fun _=>.bool true,fun _=>False,fun _=>[],fun _ _=>.bool true⟩
 have hok : ObjsOk w0 G0 m []:=⟨h.base,fun i o hf=>by simp [find] at hf,fun i j b hb=>by simp [blk,find] at hb,fun i b hb=>by simp [blk,find] at hb,h4,h5,h6,h7⟩
 have hc : Cur w0 G0 N m ⟨[],[],0⟩ tm (bl ++ []):=by
  rw [List.append_nil]
  exact ⟨⟨hok,fun i o hf=>by simp [find] at hf,h.size,fun t sv hf=>by simp [find] at hf⟩,fun i hi=>hi.elim,fun i b hb=>by simp [blk,find] at hb,h2,h3⟩
 obtain ⟨m',g,hc'⟩:=unpackAll_sound l y m _ bl [] h1 hc
 exact ⟨m',g.w,hc'.rel,hc'.fresh⟩
end
end Go.Ev
end
section
namespace Go.Ev
open Go.RowKit (Below)
section
variable {P : Program} {w0 : Base} {G0 : Nat → Prop} {N : Nat} {m : St} {e : Env} {tm : Array Value} {os ov : List (Nat × Obj)} {G H : Nat → Prop}
theorem capsAre_tm (hR : Rel w0 G0 N [] m e tm) : ∀ (vs : List Nat) (l : List Cap) (cv : List Value),capsAre e vs l = true → R2 (Cp m) l cv → R2 (fun v u=>tm[v]? = some u) vs cv
 | [],[],[],_,_=>trivial
 | v :: r, .loc id :: l,u :: cv,h,⟨h1,h2⟩=>by
  simp only [capsAre,Bool.and_eq_true] at h
  obtain ⟨ha,hb⟩:=h
  refine ⟨?_,capsAre_tm hR r l cv hb h2⟩
  cases hg : e.get v with
  | none=>simp [hg] at ha
  | some sv =>
   obtain ⟨p,hp,hs⟩:=hR.slots v sv hg
   cases sv with
   | one y =>
    cases y with
    | loc j off =>
     cases off with
     | succ=>simp [hg] at ha
     | zero =>
      simp only [hg] at ha
      have:=Nat.eq_of_beq_eq_true ha
      subst this
      show tm[v]? = some u
      rw [hp,hs.2,h1.2]
    | _=>simp [hg] at ha
   | _=>simp [hg] at ha
 | [],_ :: _,_,h,_=>by simp [capsAre] at h
 | _ :: _,[],_,h,_=>by simp [capsAre] at h
 | _ :: _, .el .. :: _,_,h,_=>by simp [capsAre] at h
theorem packItem_sound (hR : Rel w0 G0 N [] m e tm) (hk : Tk m e.objs ov false G) (hH : ∀ b,m.H b → H b) (hV : ∀ i vs,find ov i = some (.var vs) → H (m.β i))
  {a : Item} {x : a.den} (hn : (ownIds e a).Nodup) (h : y143q e ov a = some x) : ∃ bl,PkItem m.w G H tm a x bl ∧ bl.Nodup ∧ ∀ b ∈ bl,∃ i ∈ ownIds e a,blk e.objs m i b:=by
 cases a with
 | val s t =>
  simp only [y143q] at h
  simp only [ownIds] at hn ⊢
  cases hs : e.get s with
  | none=>simp [hs] at h
  | some sv =>
   simp only [hs] at h hn ⊢
   obtain ⟨v,hv,hsv⟩:=hR.slots s sv hs
   obtain ⟨cs,h1,h2,bl,h3,h4,h5⟩:=y83q hk hn h hsv
   exact ⟨bl,⟨v,cs,hv,h1,h2,h3⟩,h4,h5⟩
 | el s t =>
  simp only [y143q] at h
  refine ⟨[], ?_,List.nodup_nil,fun b hb=>by simp at hb⟩
  cases hs : e.get s with
  | none=>simp [hs] at h
  | some sv =>
   obtain ⟨v,hv,hsv⟩:=hR.slots s sv hs
   cases sv with
   | one y =>
    cases y with
    | el u z off =>
     cases off with
     | succ=>simp [hs] at h
     | zero =>
      simp only [hs] at h
      obtain ⟨b,o,cs,e1,hb,hc,hval⟩:=hsv
      exact ⟨v,hv,⟨b,o,cs,by simpa using e1,hH b hb,hc,Val.cast h (Val.mono (fun b hb=>⟨hk.hG b hb,rfl⟩) _ _ _ hval)⟩,rfl⟩
    | loc id off =>
     cases off with
     | succ=>simp [hs] at h
     | zero =>
      simp only [hs] at h
      exact ⟨v,hv,varTy_sound hk.hov hk.hG hH hV hk.hR h hsv.2,rfl⟩
    | _=>simp [hs] at h
   | _=>simp [hs] at h
 | clo s f ts =>
  simp only [y143q] at h
  refine ⟨[], ?_,List.nodup_nil,fun b hb=>by simp at hb⟩
  cases hs : e.get s with
  | none=>simp [hs] at h
  | some sv =>
   obtain ⟨v,hv,hsv⟩:=hR.slots s sv hs
   cases sv with
   | one y =>
    cases y with
    | clo g caps =>
     simp only [hs] at h
     cases hg : Nat.beq f g with
     | false=>simp [hg] at h
     | true =>
      simp only [hg] at h
      have:=Nat.eq_of_beq_eq_true hg
      subst this
      obtain ⟨cv,e1,hc⟩:=hsv
      subst e1
      exact ⟨cv,hv,bindCaps_sound hk.hov hk.hG hH hV hk.hR ts caps x cv h hc,rfl⟩
    | _=>simp [hs] at h
   | _=>simp [hs] at h
 | clov s f vs =>
  simp only [y143q] at h
  refine ⟨[], ?_,List.nodup_nil,fun b hb=>by simp at hb⟩
  cases hs : e.get s with
  | none=>simp [hs] at h
  | some sv =>
   obtain ⟨v,hv,hsv⟩:=hR.slots s sv hs
   cases sv with
   | one y =>
    cases y with
    | clo g caps =>
     simp only [hs] at h
     cases hg : Nat.beq f g && capsAre e vs caps with
     | false=>simp [hg] at h
     | true =>
      obtain ⟨hg1,hg2⟩:=Bool.and_eq_true_iff.1 hg
      have:=Nat.eq_of_beq_eq_true hg1
      subst this
      obtain ⟨cv,e1,hc⟩:=hsv
      subst e1
      exact ⟨rfl,cv,hv,capsAre_tm hR vs caps cv hg2 hc⟩
    | _=>simp [hs] at h
   | _=>simp [hs] at h
 | ali s v off =>
  simp only [y143q] at h
  refine ⟨[], ?_,List.nodup_nil,fun b hb=>by simp at hb⟩
  cases hs : e.get s with
  | none=>simp [hs] at h
  | some sv =>
   obtain ⟨p,hv,hsv⟩:=hR.slots s sv hs
   cases hl : rowIn e v off with
   | none=>cases sv <;> simp [hs,hl] at h
   | some j =>
    cases sv with
    | one y =>
     cases y with
     | row i =>
      simp only [hs,hl] at h
      cases hb : Nat.beq i j with
      | false=>simp [hb] at h
      | true =>
       have:=Nat.eq_of_beq_eq_true hb
       subst this
       obtain ⟨b,cs,T,u,k1,k2,k3,k4⟩:=rowIn_lv hR hl
       have e1 : p = m.ν i:=hsv.2.1
       have e2 : u = m.ν i:=k4.2.1
       exact ⟨rfl,b,cs,T,u,k1,k2,k3,by rw [hv,e1,e2]⟩
     | _=>simp [hs,hl] at h
    | _=>simp [hs,hl] at h
 | var s t =>
  simp only [y143q] at h
  cases hs : e.get s with
  | none=>simp [hs] at h
  | some sv =>
   obtain ⟨v,hv,hsv⟩:=hR.slots s sv hs
   cases sv with
   | one y =>
    cases y with
    | loc id off =>
     cases off with
     | succ=>simp [hs] at h
     | zero =>
      simp only [hs] at h
      cases hf : e.obj id with
      | none=>simp [hf] at h
      | some o =>
       cases o with
       | var vs =>
        simp only [hf] at h
        simp only [ownIds,hs,hf] at hn ⊢
        have hnd:=List.nodup_append.1 hn
        obtain ⟨cs,T,hh,hr⟩:=hk.ho id _ hf
        obtain ⟨hval,bl,h3,h4,h5⟩:=takeT_sound hk hnd.1 h hr
        have hβ : blk e.objs m id (m.β id):=by
         have hf' : find e.objs id = some (.var vs):=hf
         unfold blk; rw [hf']
        refine ⟨bl ++ [m.β id],⟨m.β id,cs,T,bl,by rw [hv,hsv.2],hh,hval,h3,rfl⟩,List.nodup_append.2 ⟨h4,by simp,fun p hp q hq e1=>?_⟩,fun b hb=>?_⟩
        ·subst e1
         simp only [List.mem_singleton] at hq
         subst hq
         obtain ⟨i,hi,hb⟩:=h5 _ hp
         exact hnd.2.2 i hi id (by simp) (hk.inj i id _ hb hβ)
        ·rcases List.mem_append.1 hb with hb | hb
         ·obtain ⟨i,hi,hb⟩:=h5 _ hb
          exact ⟨i,List.mem_append_left _ hi,hb⟩
         ·simp only [List.mem_singleton] at hb
          subst hb
          exact ⟨id,by simp,hβ⟩
       | _=>simp [hf] at h
    | _=>simp [hs] at h
   | _=>simp [hs] at h
theorem packAll_sound (hR : Rel w0 G0 N [] m e tm) (hk : Tk m e.objs ov false G) (hH : ∀ b,m.H b → H b) (hV : ∀ i vs,find ov i = some (.var vs) → H (m.β i)) :
  ∀ (l : List Item) (x : Items.den l),(ownAll e l).Nodup → packAll e ov l = some x → ∃ bl,PkAll m.w G H tm l x bl ∧ bl.Nodup ∧ ∀ b ∈ bl,∃ i ∈ ownAll e l,blk e.objs m i b
 | [],x,_,h=>⟨[],rfl,List.nodup_nil,fun b hb=>by simp at hb⟩
 | [a],x,hn,h=>by
  simp only [packAll] at h
  simp only [ownAll,List.append_nil] at hn ⊢
  exact packItem_sound hR hk hH hV hn h
 | a :: b :: r,x,hn,h=>by
  simp only [packAll] at h
  have hn' : (ownIds e a ++ ownAll e (b :: r)).Nodup:=hn
  have hnd:=List.nodup_append.1 hn'
  cases h1 : y143q e ov a with
  | none=>simp [h1] at h
  | some y =>
   cases h2 : packAll e ov (b :: r) with
   | none=>simp [h1,h2] at h
   | some z =>
    simp only [h1,h2,Option.some.injEq] at h
    subst h
    obtain ⟨b1,k1,k2,k3⟩:=packItem_sound hR hk hH hV hnd.1 h1
    obtain ⟨b2,l1,l2,l3⟩:=packAll_sound hR hk hH hV (b :: r) z hnd.2.1 h2
    refine ⟨b1 ++ b2,⟨b1,b2,rfl,k1,l1⟩,List.nodup_append.2 ⟨k2,l2,fun p hp q hq e1=>?_⟩,fun p hp=>?_⟩
    ·subst e1
     obtain ⟨i,hi,g1⟩:=k3 p hp
     obtain ⟨j,hj,g2⟩:=l3 p hq
     exact hnd.2.2 i hi j hj (hk.inj i j p g1 g2)
    ·rcases List.mem_append.1 hp with hp | hp
     ·obtain ⟨i,hi,g⟩:=k3 p hp
      exact ⟨i,List.mem_append_left _ hi,g⟩
     ·obtain ⟨i,hi,g⟩:=l3 p hp
      exact ⟨i,List.mem_append_right _ hi,g⟩
theorem rel_split (hR : Rel w0 G0 N [] m e tm) (ids : List Nat) :
  Tk m e.objs (eraseAll ids e.objs) false (fun b=>m.G b ∨ ∃ i,blk (eraseAll ids e.objs) m i b) ∧ (∀ i vs,find (eraseAll ids e.objs) i = some (.var vs) → m.H (m.β i) ∨ ∃ j,blk (eraseAll ids e.objs) m j (m.β i)) ∧
   ∀ i b,i ∈ ids → blk e.objs m i b → ¬ (m.G b ∨ ∃ i,blk (eraseAll ids e.objs) m i b) ∧ ¬ (m.H b ∨ ∃ i,blk (eraseAll ids e.objs) m i b) ∧ b < m.w.heap.size ∧ Mine w0 b:=by
 have hok : ObjsOk w0 G0 m e.objs:=by have:=hR.ok; rwa [List.append_nil] at this
 refine ⟨⟨fun i o hi=>(hok.objs i o hi).2,fun i o hi=>(hok.objs i o (erased hi).2).2,fun b hb=>.inl hb,fun _ i o b hf hb=>.inr ⟨i,frzB_blk hf hb⟩,hok.inj⟩,fun i vs hf=>.inr ⟨i,by unfold blk; rw [hf]⟩,fun i b hi hb=>?_⟩
 obtain ⟨o1,o2,o3,o4⟩:=hok.out i b hb
 have hap : ∀ j,¬ blk (eraseAll ids e.objs) m j b:=fun j hj=>by
  have:=hR.apart hi hb j
  rw [List.append_nil] at this
  exact this hj
 exact ⟨fun h=>h.elim o1 fun ⟨j,hj⟩=>hap j hj,fun h=>h.elim o2 fun ⟨j,hj⟩=>hap j hj,o3,o4⟩
theorem rel_splitG (hR : Rel w0 G0 N [] m e tm) (ids : List Nat) {b : Nat} (h : ∃ i,blk (eraseAll ids e.objs) m i b) : b < m.w.heap.size ∧ Mine w0 b:=by
 obtain ⟨i,hi⟩:=h
 have hb : blk e.objs m i b:=by
  unfold blk at hi ⊢
  cases hf : find (eraseAll ids e.objs) i with
  | none=>rw [hf] at hi; exact hi.elim
  | some o=>rw [hf] at hi; rw [(erased hf).2]; exact hi
 obtain ⟨_,_,o3,o4⟩:=hR.ok.out i b (y38q hb)
 exact ⟨o3,o4⟩
theorem y96q (hR : Rel w0 G0 N [] m e tm) {l : List Item} {y : Items.den l} (h : pack e l = some y) : Packed w0 G0 N m.w l y tm:=by
 unfold pack at h
 cases hn : nodupN (ownAll e l) with
 | false=>simp [hn] at h
 | true =>
  simp only [hn] at h
  obtain ⟨hk,hV,hout⟩:=rel_split hR (ownAll e l)
  obtain ⟨bl,k1,k2,k3⟩:=packAll_sound (H:=fun b=>m.H b ∨ ∃ i,blk (eraseAll (ownAll e l) e.objs) m i b) hR hk (fun b hb=>.inl hb) hV l y (y82q _ hn) h
  refine ⟨hR.tms,hR.ok.base,_,_,bl,k1,k2,fun b hb=>?_,fun b hb=>?_,fun b hb=>?_,fun b hb=>?_,fun b hb=>?_⟩
  ·obtain ⟨i,hi,hbi⟩:=k3 b hb
   exact hout i b hi hbi
  ·exact hb.elim (hR.ok.liveG b) fun h=>(rel_splitG hR _ h).1
  ·exact hb.elim (hR.ok.liveH b) fun h=>(rel_splitG hR _ h).1
  ·exact hb.elim (hR.ok.subG b) fun h=>.inr (rel_splitG hR _ h).2
  ·exact hb.imp (hR.ok.gh b) fun h=>h
end
end Go.Ev
end
section
namespace Go.Ev
open Go.RowKit (Below)
theorem wp_loop_fuel {P : Program} {Q : Exit → Act → World → Prop} {c : Code} (I : Nat → Act → World → Prop)
  (round : ∀ n a w,I n a w → c.wp P (Exit.then (fun a' w'=>∃ n',n' < n ∧ I n' a' w') Q) a w) {n : Nat} {a : Act} {w : World} (h₀ : I n a w) : (Code.loop c).wp P Q a w:=by
 intro b k cs
 have key : ∀ n a w,I n a w → ∃ e a' w',Q e a' w' ∧ Arrives P (lone (b.at a (.code c :: .inLoop c :: k)) cs w) b k cs e a' w':=by
  intro n
  induction n using Nat.strongRecOn with
  | _ n ih =>
   intro a w hI
   obtain ⟨e,a₁,w₁,hq,harr⟩:=round n a w hI b (.inLoop c :: k) cs
   cases e with
   | normal =>
    obtain ⟨n',hlt,hI₁⟩:=hq
    obtain ⟨e₂,a₂,w₂,hq₂,harr₂⟩:=ih n' hlt a₁ w₁ hI₁
    exact ⟨e₂,a₂,w₂,hq₂, .of_steps (Steps.trans harr (.one step_inLoop)) harr₂⟩
   | exit id=>exact ⟨_,a₁,w₁,hq, .pass (x:=.inLoop c) rfl (fun _ _=>.inl (by simp)) harr⟩
   | goto l=>exact ⟨_,a₁,w₁,hq, .pass (x:=.inLoop c) rfl (fun _ _=>.inl (by simp)) harr⟩
   | ret=>exact ⟨_,a₁,w₁,hq, .pass (x:=.inLoop c) rfl (fun _ _=>.inl (by simp)) harr⟩
   | panic ch=>exact ⟨_,a₁,w₁,hq, .pass (x:=.inLoop c) rfl (fun _ _=>.inl (by simp)) harr⟩
   | outgrown=>exact ⟨_,a₁,w₁,hq, .pass (x:=.inLoop c) rfl (fun _ _=>.inl (by simp)) harr⟩
 obtain ⟨e,a',w',hq,harr⟩:=key n a w h₀
 exact ⟨e,a',w',hq, .of_steps (.one step_loop) harr⟩
def allDst (q : List Nat) (N : Nat) : List Oper → Bool
 | []=>true
 | o :: r=>match dstOk q N o.dst with
  | true=>allDst q N r
  | false=>false
theorem allDst_mem {q : List Nat} {N : Nat} : ∀ {l : List Oper},allDst q N l = true → ∀ o ∈ l,dstOk q N o.dst = true
 | [],_,o,h=>by simp at h
 | p :: r,h,o,hm=>by
  simp only [allDst] at h
  cases hp : dstOk q N p.dst with
  | false=>simp [hp] at h
  | true =>
   simp only [hp] at h
   rcases List.mem_cons.1 hm with e | e
   ·subst e; exact hp
   ·exact allDst_mem h o e
def y45q (p : List Nat) (N : Nat) : Code → Bool
 | .region _ ops _=>allDst p N ops.toList
 | .seq a b=>match y45q p N a with
  | true=>y45q p N b
  | false=>false
 | .cond _ a b=>match y45q p N a with
  | true=>y45q p N b
  | false=>false
 | .block _ c=>y45q p N c
 | .loop c=>y45q p N c
 | .scope c=>y45q p N c
 | _=>true
theorem both {a b : Bool} (h : (match a with
  | true=>b
  | false=>false) = true) : a = true ∧ b = true:=by cases a <;> cases b <;> simp_all
theorem dstOk_sub {p q : List Nat} {N : Nat} (h : ∀ i,i ∈ p → i ∈ q) {d : Option Nat} (hd : dstOk q N d = true) : dstOk p N d = true:=by
 cases d with
 | none=>rfl
 | some d =>
  simp only [dstOk,Bool.and_eq_true] at hd ⊢
  refine ⟨?_,hd.2⟩
  cases hm : memN p d with
  | false=>rfl
  | true =>
   have:=h d ((y81q _ _).1 hm)
   rw [(y81q _ _).2 this] at hd
   simp at hd
theorem y61q {p q : List Nat} {N : Nat} (h : ∀ i,i ∈ p → i ∈ q) : ∀ c : Code,y45q q N c = true → y45q p N c = true
 | .region _ ops _,hc=>by
  simp only [y45q] at hc ⊢
  have key : ∀ l : List Oper,allDst q N l = true → allDst p N l = true:=by
   intro l
   induction l with
   | nil=>intro _; rfl
   | cons o r ih =>
    intro hl
    simp only [allDst] at hl ⊢
    cases hd : dstOk q N o.dst with
    | false=>simp [hd] at hl
    | true=>rw [dstOk_sub h hd]; rw [hd] at hl; exact ih hl
  exact key _ hc
 | .seq a b,hc=>by
  simp only [y45q] at hc ⊢
  obtain ⟨h1,h2⟩:=both hc
  rw [y61q h a h1]; exact y61q h b h2
 | .cond _ a b,hc=>by
  simp only [y45q] at hc ⊢
  obtain ⟨h1,h2⟩:=both hc
  rw [y61q h a h1]; exact y61q h b h2
 | .block _ c,hc=>by simp only [y45q] at hc ⊢; exact y61q h c hc
 | .loop c,hc=>by simp only [y45q] at hc ⊢; exact y61q h c hc
 | .scope c,hc=>by simp only [y45q] at hc ⊢; exact y61q h c hc
 | .skip,_ | .exit _,_ | .ret,_ | .label _,_ | .goto _,_ | .rangeFunc ..,_ | .refuse _,_=>rfl
def Post (w0 : Base) (G0 : Nat → Prop) (N : Nat) {ρ σ : Type} (fin : Env → Option ρ) (ι : ρ → Option σ) (K : Ex → Env → Option σ) (r : σ) : Exit → Act → World → Prop
 | .normal,a,w=>∃ m e,m.w = w ∧ a.defers = [] ∧ Rel w0 G0 N [] m e a.tmps ∧ Fresh m e ∧ K .normal e = some r
 | .exit i,a,w=>∃ m e,m.w = w ∧ a.defers = [] ∧ Rel w0 G0 N [] m e a.tmps ∧ Fresh m e ∧ K (.exit i) e = some r
 | .ret,a,w=>∃ m e z,m.w = w ∧ a.defers = [] ∧ Rel w0 G0 N [] m e a.tmps ∧ fin e = some z ∧ ι z = some r
 | _,_,_=>False
def DrawSound (P : Program) (wo : World) (Γ : Tab) (Δ : List (Nat × Con)) : Prop:=∀ {w0 : Base} {G0 : Nat → Prop} {N : Nat} {m : St} {e : Env} {tm : Array Value} {k id : Nat} {ρ : Type} {ops : Array Oper} {K : Env → Option ρ} {r : ρ} {Q : Exit → Act → World → Prop},w0.o = wo →
  (∀ o ∈ ops.toList,dstOk w0.ps N o.dst = true) → slotsOk ops.toList (ancs 0 ops.toList []) 0 ops.toList = true → Rel w0 G0 N [] m e tm → Fresh m e → evOpsD Γ Δ k ops.toList (ancs 0 ops.toList []) ops.toList 0 [] e K = some r →
  (∀ m' e' tm',Rel w0 G0 N [] m' e' tm' → Fresh m' e' → K e' = some r → Q .normal ⟨tm',[]⟩ m'.w) → (Code.region id ops true).wp P Q ⟨tm,[]⟩ m.w
section
variable {P : Program} {w0 : Base} {G0 : Nat → Prop} {N : Nat} {Γ : Tab} {Δ : List (Nat × Con)} {A : Ann} {ρ : Type} {fin : Env → Option ρ}
theorem y85q {σ : Type} {its : List Item} {e : Env} {f : Items.den its → Option σ} {r : σ} (h : toJoin its e f = some r) : ∃ y,pack e its = some y ∧ f y = some r:=by
 unfold toJoin at h
 cases hp : pack e its with
 | none=>simp [hp] at h
 | some y=>simp only [hp] at h; exact ⟨y,rfl,h⟩
theorem act_eta {a : Act} (h : a.defers = []) : a = ⟨a.tmps,[]⟩:=by cases a; simp only at h; subst h; rfl
def Sound (P : Program) (w0 : Base) (G0 : Nat → Prop) (N : Nat) {ρ : Type} (fin : Env → Option ρ) (c : Code) (run : Run ρ) : Prop :=
 ∀ {σ : Type} (ι : ρ → Option σ) (K : Ex → Env → Option σ) (e : Env) (r : σ) (m : St) (tm : Array Value),Rel w0 G0 N [] m e tm → Fresh m e → run ι e K = some r → c.wp P (Post w0 G0 N fin ι K r) ⟨tm,[]⟩ m.w
theorem loopQ_sound {id : Nat} {its js : List Item} {body : Code} {run : Nat → Run ρ} (hb : ∀ k,Sound P w0 G0 N fin body (run k)) {k : Nat} {x : Items.den its} {y : Items.den js} {tm : Array Value} {w : World} (hx : Packed w0 G0 N w its x tm)
  (h : loopQ id its js run k x = some y) {Q : Exit → Act → World → Prop} (hQ : ∀ tm' w',Packed w0 G0 N w' js y tm' → Q .normal ⟨tm',[]⟩ w') : (Code.block id (.loop body)).wp P Q ⟨tm,[]⟩ w:=by
 refine wp_block (wp_loop_fuel (fun n a w=>a.defers = [] ∧ ∃ x,Packed w0 G0 N w its x a.tmps ∧ loopQ id its js run n x = some y) ?_ (n:=k) ⟨rfl,x,hx,h⟩)
 intro n a w ⟨hd,x,hx,h⟩
 cases n with
 | zero=>simp [loopQ] at h
 | succ n =>
  simp only [loopQ,stepQ] at h
  obtain ⟨m,hw,hR,hf⟩:=y84q hx
  rw [act_eta hd,← hw]
  refine wp_mono (hb n _ _ _ _ m a.tmps hR hf h) ?_
  intro ex a' w' hp
  cases ex with
  | normal =>
   obtain ⟨m',e',rfl,hd',hR',hf',hK⟩:=hp
   obtain ⟨x',hp',hl⟩:=y85q hK
   exact ⟨n,Nat.lt_succ_self n,hd',x',y96q hR' hp',hl⟩
  | exit i =>
   obtain ⟨m',e',rfl,hd',hR',hf',hK⟩:=hp
   simp only at hK
   cases hi : Nat.beq i id with
   | false=>simp [hi] at hK
   | true =>
    simp only [hi] at hK
    have:=Nat.eq_of_beq_eq_true hi
    subst this
    obtain ⟨y',hp',hl⟩:=y85q hK
    obtain rfl:=Option.some.inj hl
    simp only [Exit.then,Exit.inBlock,if_pos]
    rw [act_eta hd']
    exact hQ _ _ (y96q hR' hp')
  | ret =>
   obtain ⟨m',e',z,_,_,_,_,hz⟩:=hp
   simp at hz
  | _=>exact hp.elim
theorem loopR_sound {id : Nat} {its js : List Item} {body : Code} {run : Nat → Run ρ} (hb : ∀ k,Sound P w0 G0 N fin body (run k)) {k : Nat} {x : Items.den its} {y : Items.den js ⊕ ρ} {tm : Array Value} {w : World} (hx : Packed w0 G0 N w its x tm)
  (h : loopR id its js run k x = some y) {Q : Exit → Act → World → Prop} (hQ : ∀ z,y = .inl z → ∀ tm' w',Packed w0 G0 N w' js z tm' → Q .normal ⟨tm',[]⟩ w')
  (hQr : ∀ z,y = .inr z → ∀ m e tm',Rel w0 G0 N [] m e tm' → fin e = some z → Q .ret ⟨tm',[]⟩ m.w) : (Code.block id (.loop body)).wp P Q ⟨tm,[]⟩ w:=by
 refine wp_block (wp_loop_fuel (fun n a w=>a.defers = [] ∧ ∃ x,Packed w0 G0 N w its x a.tmps ∧ loopR id its js run n x = some y) ?_ (n:=k) ⟨rfl,x,hx,h⟩)
 intro n a w ⟨hd,x,hx,h⟩
 cases n with
 | zero=>simp [loopR] at h
 | succ n =>
  simp only [loopR,stepR] at h
  obtain ⟨m,hw,hR,hf⟩:=y84q hx
  rw [act_eta hd,← hw]
  refine wp_mono (hb n _ _ _ _ m a.tmps hR hf h) ?_
  intro ex a' w' hp
  cases ex with
  | normal =>
   obtain ⟨m',e',rfl,hd',hR',hf',hK⟩:=hp
   obtain ⟨x',hp',hl⟩:=y85q hK
   exact ⟨n,Nat.lt_succ_self n,hd',x',y96q hR' hp',hl⟩
  | exit i =>
   obtain ⟨m',e',rfl,hd',hR',hf',hK⟩:=hp
   simp only at hK
   cases hi : Nat.beq i id with
   | false=>simp [hi] at hK
   | true =>
    simp only [hi] at hK
    have:=Nat.eq_of_beq_eq_true hi
    subst this
    obtain ⟨y',hp',hl⟩:=y85q hK
    simp only [Exit.then,Exit.inBlock,if_pos]
    rw [act_eta hd']
    exact hQ y' (Option.some.inj hl).symm _ _ (y96q hR' hp')
  | ret =>
   obtain ⟨m',e',z,rfl,hd',hR',hz,he⟩:=hp
   simp only [Exit.then,Exit.inBlock]
   rw [act_eta hd']
   exact hQr z (Option.some.inj he).symm m' e' _ hR' hz
  | _=>exact hp.elim
theorem loop_sound {id : Nat} {body : Code} (ih : ∀ k,Sound P w0 G0 N fin body (fun ι e K=>evCode Γ Δ A fin body k ι e K)) (k : Nat) : Sound P w0 G0 N fin (.block id (.loop body)) (fun ι e K=>evCode Γ Δ A fin (.block id (.loop body)) k ι e K):=by
  intro σ ι K e r m tm hR hf h
  simp only [evCode] at h
  cases hl : find A.loops id with
  | none=>simp [hl] at h
  | some p =>
   obtain ⟨its,j⟩:=p
   simp only [hl] at h
   obtain ⟨x,hp,h⟩:=y85q h
   cases hq : j.quiet with
   | true =>
    rw [hq] at h
    simp only at h
    obtain ⟨y,h1,h2⟩:=y80q h
    refine loopQ_sound (fun k=>ih k) (y96q hR hp) h1 ?_
    intro tm' w' hpk
    obtain ⟨m2,hw,hR2,hf2⟩:=y84q hpk
    exact ⟨m2,_,hw,rfl,hR2,hf2,h2⟩
   | false =>
    rw [hq] at h
    simp only at h
    obtain ⟨y,h1,h2⟩:=y80q h
    refine loopR_sound (fun k=>ih k) (y96q hR hp) h1 ?_ ?_
    ·intro z hz tm' w' hpk
     subst hz
     obtain ⟨m2,hw,hR2,hf2⟩:=y84q hpk
     exact ⟨m2,_,hw,rfl,hR2,hf2,h2⟩
    ·intro z hz m2 e2 tm' hR2 hfin
     subst hz
     exact ⟨m2,e2,z,rfl,rfl,hR2,hfin,h2⟩
theorem y97q (hΓ : TabOk P Γ) (hΔ : DelOk P w0.o Δ) (hD : DrawSound P w0.o Γ Δ) : ∀ (c : Code),y45q w0.ps N c = true → ∀ k,Sound P w0 G0 N fin c (fun ι e K=>evCode Γ Δ A fin c k ι e K)
 | .skip,hc,k,σ,ι,K,e,r,m,tm,hR,hf,h=>wp_skip ⟨m,e,rfl,rfl,hR,hf,h⟩
 | .exit id,hc,k,σ,ι,K,e,r,m,tm,hR,hf,h=>wp_exit ⟨m,e,rfl,rfl,hR,hf,h⟩
 | .ret,hc,k,σ,ι,K,e,r,m,tm,hR,hf,h=>by
  simp only [evCode] at h
  cases hz : fin e with
  | none=>simp [hz] at h
  | some z =>
   simp only [hz] at h
   exact wp_ret ⟨m,e,z,rfl,rfl,hR,hz,h⟩
 | .region id ops d,hc,k,σ,ι,K,e,r,m,tm,hR,hf,h=>by
  simp only [evCode] at h
  simp only [y45q] at hc
  cases d with
  | false =>
   simp only at h
   exact wp_region_list (ops_sound hΓ hΔ rfl (fun m' e' tm' hR' hf' hK=>⟨m',e',rfl,rfl,hR',hf',hK⟩) _ m e tm (allDst_mem hc) hR hf h)
  | true =>
   simp only at h
   cases hs : slotsOk ops.toList (ancs 0 ops.toList []) 0 ops.toList with
   | false=>simp [hs] at h
   | true =>
    simp only [hs] at h
    exact hD rfl (allDst_mem hc) hs hR hf h fun m' e' tm' hR' hf' hK=>⟨m',e',rfl,rfl,hR',hf',hK⟩
 | .seq a b,hc,k,σ,ι,K,e,r,m,tm,hR,hf,h=>by
  simp only [y45q] at hc
  obtain ⟨hca,hcb⟩:=both hc
  have iha : ∀ k,Sound P w0 G0 N fin a (fun ι e K=>evCode Γ Δ A fin a k ι e K):=fun k {σ} ι K e r m tm=>y97q hΓ hΔ hD a hca k ι K e r m tm
  have ihb : ∀ k,Sound P w0 G0 N fin b (fun ι e K=>evCode Γ Δ A fin b k ι e K):=fun k {σ} ι K e r m tm=>y97q hΓ hΔ hD b hcb k ι K e r m tm
  simp only [evCode] at h
  refine wp_seq ?_
  split at h
  ·rename_i j hj
   unfold meet at h
   cases hq : j.quiet with
   | true =>
    rw [hq] at h
    simp only at h
    obtain ⟨y,h1,h2⟩:=y80q h
    refine wp_mono (iha k _ _ _ _ m tm hR hf h1) ?_
    intro ex a' w' hp
    cases ex with
    | normal =>
     obtain ⟨m',e',rfl,hd',hR',hf',hK⟩:=hp
     obtain ⟨y',hp',hl⟩:=y85q hK
     obtain rfl:=Option.some.inj hl
     obtain ⟨m2,hw,hR2,hf2⟩:=y84q (y96q hR' hp')
     simp only [Exit.then]
     rw [act_eta hd',← hw]
     exact ihb k _ _ _ _ m2 _ hR2 hf2 h2
    | exit i =>
     obtain ⟨m',e',_,_,_,_,hK⟩:=hp
     simp at hK
    | ret =>
     obtain ⟨m',e',z,_,_,_,_,hz⟩:=hp
     simp at hz
    | _=>exact hp.elim
   | false =>
    rw [hq] at h
    simp only at h
    obtain ⟨y,h1,h2⟩:=y80q h
    refine wp_mono (iha k _ _ _ _ m tm hR hf h1) ?_
    intro ex a' w' hp
    cases ex with
    | normal =>
     obtain ⟨m',e',rfl,hd',hR',hf',hK⟩:=hp
     obtain ⟨y',hp',hl⟩:=y85q hK
     obtain rfl:=Option.some.inj hl
     obtain ⟨m2,hw,hR2,hf2⟩:=y84q (y96q hR' hp')
     simp only [Exit.then]
     rw [act_eta hd',← hw]
     exact ihb k _ _ _ _ m2 _ hR2 hf2 h2
    | exit i =>
     obtain ⟨m',e',_,_,_,_,hK⟩:=hp
     simp at hK
    | ret =>
     obtain ⟨m',e',z,rfl,hd',hR',hz,he⟩:=hp
     obtain rfl:=Option.some.inj he
     exact ⟨m',e',z,rfl,hd',hR',hz,h2⟩
    | _=>exact hp.elim
  ·refine wp_mono (iha k _ _ _ _ m tm hR hf h) ?_
   intro ex a' w' hp
   cases ex with
   | normal =>
    obtain ⟨m',e',rfl,hd',hR',hf',hK⟩:=hp
    simp only [Exit.then]
    rw [act_eta hd']
    exact ihb k _ _ _ _ m' _ hR' hf' hK
   | exit i=>exact hp
   | ret=>exact hp
   | _=>exact hp.elim
 | .cond c a b,hc,k,σ,ι,K,e,r,m,tm,hR,hf,h=>by
  simp only [y45q] at hc
  obtain ⟨hca,hcb⟩:=both hc
  simp only [evCode] at h
  cases hx : e.one c with
  | none=>simp [hx] at h
  | some v =>
   have hl:=y105q (a:=⟨tm,[]⟩) hR hx
   cases v with
   | b x =>
    simp only [hx] at h
    simp only [Lv] at hl
    cases x with
    | true=>exact wp_cond_true hl (y97q hΓ hΔ hD a hca k _ _ _ _ m tm hR hf h)
    | false=>exact wp_cond_false hl (y97q hΓ hΔ hD b hcb k _ _ _ _ m tm hR hf h)
   | _=>simp [hx] at h
 | .block id (.loop body),hc,k,σ,ι,K,e,r,m,tm,hR,hf,h=>by
  simp only [y45q] at hc
  have ih : ∀ k,Sound P w0 G0 N fin body (fun ι e K=>evCode Γ Δ A fin body k ι e K):=fun k {σ} ι K e r m tm=>y97q hΓ hΔ hD body hc k ι K e r m tm
  exact loop_sound ih k ι K e r m tm hR hf h
 | .block id body,hc,k,σ,ι,K,e,r,m,tm,hR,hf,h=>by
  have hcb : y45q w0.ps N body = true:=hc
  have ih : ∀ k,Sound P w0 G0 N fin body (fun ι e K=>evCode Γ Δ A fin body k ι e K):=fun k {σ} ι K e r m tm=>y97q hΓ hΔ hD body hcb k ι K e r m tm
  have h' : (∃ b,body = .loop b) ∨ evCode Γ Δ A fin body k ι e (fun ex e'=>match ex with
    | .normal=>K .normal e'
    | .exit i=>match Nat.beq i id with
     | true=>K .normal e'
     | false=>K (.exit i) e') = some r:=by
   cases body <;> first
    | exact .inl ⟨_,rfl⟩
    | (right; simp only [evCode] at h; exact h)
  rcases h' with ⟨b,rfl⟩ | h'
  ·exact loop_sound (fun k {σ} ι K e r m tm=>y97q hΓ hΔ hD b (by simp only [y45q] at hcb; exact hcb) k ι K e r m tm) k ι K e r m tm hR hf h
  ·refine wp_block (wp_mono (ih k _ _ _ _ m tm hR hf h') ?_)
   intro ex a' w' hp
   cases ex with
   | normal=>exact hp
   | exit i =>
    obtain ⟨m',e',rfl,hd',hR',hf',hK⟩:=hp
    simp only at hK
    simp only [Exit.inBlock]
    cases hi : Nat.beq i id with
    | true =>
     have:=Nat.eq_of_beq_eq_true hi
     simp only [hi] at hK
     rw [if_pos this]
     exact ⟨m',e',rfl,hd',hR',hf',hK⟩
    | false =>
     have hne : ¬ i = id:=fun q=>by subst q; simp at hi
     simp only [hi] at hK
     rw [if_neg hne]
     exact ⟨m',e',rfl,hd',hR',hf',hK⟩
   | ret=>exact hp
   | _=>exact hp.elim
 | .loop c,hc,k,σ,ι,K,e,r,m,tm,hR,hf,h=>by simp [evCode] at h
 | .scope c,hc,k,σ,ι,K,e,r,m,tm,hR,hf,h=>by simp [evCode] at h
 | .label l,hc,k,σ,ι,K,e,r,m,tm,hR,hf,h=>by simp [evCode] at h
 | .goto l,hc,k,σ,ι,K,e,r,m,tm,hR,hf,h=>by simp [evCode] at h
end
end Go.Ev
end
section
namespace Go.Ev
section
variable {ρ : Type} {Γ : Tab} {Δ : List (Nat × Con)} {k : Nat}
abbrev pr (v : SV) (e : Env) : Option (SV × Env):=some (v,e)
theorem y59q {α β : Type} (b : Bool) (x : Option α) (f : α → Option β) : (chk b x).bind f = chk b (x.bind f):=by cases b <;> rfl
theorem br_bind {α β : Type} (b : Bool) (x y : Option α) (f : α → Option β) : (br b x y).bind f = br b (x.bind f) (y.bind f):=by cases b <;> rfl
theorem bnd_bind {α β γ : Type} (x : Option α) (g : α → Option β) (f : β → Option γ) : (bnd x g).bind f = bnd x fun y=>(g y).bind f:=by cases x <;> rfl
theorem evInt_nat (op : BinOp) (q : IntKind) (a b : Int) (K : SV → Option ρ) : evInt op q a b K = (evInt op q a b some).bind K:=by
 cases op <;> simp only [evInt,y59q,Option.bind_some,Option.bind_none]
theorem evStr_nat (op : BinOp) (a b : List UInt8) (K : SV → Option ρ) : evStr op a b K = (evStr op a b some).bind K:=by
 cases op <;> simp only [evStr,y59q,Option.bind_some,Option.bind_none]
theorem evBin_nat (u : Ty) (op : BinOp) (x y : SV) (K : SV → Option ρ) : evBin u op x y K = (evBin u op x y some).bind K:=by
 unfold evBin
 split
 ·split
  ·simp only [y59q,Option.bind_some]
  ·simp only [y59q,Option.bind_some]
  ·split
   ·exact evInt_nat _ _ _ _ _
   ·rfl
 ·split
  ·split <;> rfl
  ·rfl
 ·exact evStr_nat _ _ _ _
 ·split
  ·split
   ·split <;> rfl
   ·split <;> rfl
   ·rfl
  ·rfl
 ·rfl
theorem evUn_nat (op : UnOp) (x : V) (K : SV → Option ρ) : evUn op x K = (evUn op x some).bind K:=by
 unfold evUn
 split <;> rfl
theorem evIndexAddr_nat (u : Ty) (s : V) (n : Int) (e : Env) (K : SV → Option ρ) : y112q u s n e K = (y112q u s n e some).bind K:=by
 unfold y112q
 repeat' split
 all_goals first | rfl | simp only [y59q,Option.bind_some]
theorem evSliceN_nat (t : Ty) (xs : List t.den) (lo hi : Option Int) (K : SV → Option ρ) : y119q t xs lo hi K = (y119q t xs lo hi some).bind K:=by
 unfold y119q
 split <;> simp only [y59q,Option.bind_some]
theorem evSliceS_nat (s : List UInt8) (lo hi : Option Int) (K : SV → Option ρ) : evSliceS s lo hi K = (evSliceS s lo hi some).bind K:=by
 unfold evSliceS
 split <;> simp only [y59q,Option.bind_some]
theorem evSliceR_nat (id sz lo len : Nat) (l h : Option Int) (K : SV → Option ρ) : y142q id sz lo len l h K = (y142q id sz lo len l h some).bind K:=by
 unfold y142q
 split <;> simp only [y59q,Option.bind_some]
theorem with_env {x : Option SV} (e : Env) (K : SV → Env → Option ρ) : (x.bind fun v=>K v e) = (x.bind fun v=>pr v e).bind fun p=>K p.1 p.2:=by cases x <;> rfl
theorem evSlice_nat (u : Ty) (x : V) (lo hi : Option Operand) (e : Env) (K : SV → Env → Option ρ) : evSlice u x lo hi e K = (evSlice u x lo hi e pr).bind fun p=>K p.1 p.2:=by
 unfold evSlice
 repeat' split
 all_goals first
  | rfl
  | (rw [evSliceS_nat,evSliceS_nat _ _ _ (fun v=>pr v e)]; exact with_env _ _)
  | (rw [evSliceN_nat,evSliceN_nat _ _ _ _ (fun v=>pr v e)]; exact with_env _ _)
  | (rw [evSliceR_nat,evSliceR_nat _ _ _ _ _ _ (fun v=>pr v e)]; exact with_env _ _)
theorem evLoad_nat (T : Nat) (a : V) (e : Env) (K : SV → Env → Option ρ) : evLoad Γ T a e K = (evLoad Γ T a e pr).bind fun p=>K p.1 p.2:=by
 unfold evLoad
 repeat' split
 all_goals rfl
theorem evLookup_nat (u : Ty) (p : V) (x : SV) (ok : Bool) (e : Env) (K : SV → Env → Option ρ) : evLookup u p x ok e K = (evLookup u p x ok e pr).bind fun p=>K p.1 p.2:=by
 unfold evLookup
 repeat' split
 all_goals rfl
theorem evMapSet_nat (u : Ty) (p : V) (x y : SV) (e : Env) (K : SV → Env → Option ρ) : evMapSet u p x y e K = (evMapSet u p x y e pr).bind fun p=>K p.1 p.2:=by
 unfold evMapSet
 repeat' split
 all_goals rfl
theorem evStore_nat (T : Nat) (a : V) (v : SV) (e : Env) (K : SV → Env → Option ρ) : evStore Γ T a v e K = (evStore Γ T a v e pr).bind fun p=>K p.1 p.2:=by
 unfold evStore
 repeat' split
 all_goals first
  | rfl
  | (rw [bnd_bind]; congr 1; funext x0; (repeat' split); all_goals first | rfl | (rw [bnd_bind]; rfl))
theorem evAppendTo_nat (T : Nat) (t : Ty) (ys : List t.den) (s : V) (e : Env) (K : SV → Env → Option ρ) : y76q T t ys s e K = (y76q T t ys s e pr).bind fun p=>K p.1 p.2:=by
 unfold y76q
 repeat' split
 all_goals first | rfl | simp only [y59q,Option.bind_some]
theorem evAppend_nat (T : Nat) (s x : V) (e : Env) (K : SV → Env → Option ρ) : evAppend Γ T s x e K = (evAppend Γ T s x e pr).bind fun p=>K p.1 p.2:=by
 unfold evAppend
 repeat' split
 all_goals first | with_reducible rfl | with_reducible exact evAppendTo_nat _ _ _ _ _ _ | (simp only [y59q,Option.bind_some]; done) | rfl
theorem evAppendN_nat (T : Nat) (x : V) (e : Env) (K : SV → Env → Option ρ) : evAppendN Γ T x e K = (evAppendN Γ T x e pr).bind fun p=>K p.1 p.2:=by
 unfold evAppendN
 repeat' split
 all_goals first | with_reducible rfl | with_reducible exact evAppendTo_nat _ _ _ _ _ _ | (simp only [y59q,Option.bind_some]; done) | rfl
theorem evConv_nat (src dst : Ty) (x : V) (e : Env) (K : SV → Env → Option ρ) : evConv src dst x e K = (evConv src dst x e pr).bind fun p=>K p.1 p.2:=by
 unfold evConv
 repeat' split
 all_goals rfl
theorem backG_nat (lim : Nat) (c : Con) (vs : List SV) (os : List (Nat × Obj)) (n : Nat) (e : Env) (y : den1 c.res) (K : SV → Env → Option ρ) : backG lim c vs os n e y K = (backG lim c vs os n e y pr).bind fun p=>K p.1 p.2:=by
 unfold backG
 split
 ·simp only
  split <;> rfl
 ·rfl
theorem evCallG_nat (lim : Nat) (c : Con) (vs : List SV) (e : Env) (K : SV → Env → Option ρ) : evCallG k lim c vs e K = (evCallG k lim c vs e pr).bind fun p=>K p.1 p.2:=by
 unfold evCallG
 repeat' split
 all_goals first
  | rfl
  | (rw [bnd_bind]; congr 1; funext y; exact backG_nat _ _ _ _ _ _ _ _)
theorem evCall_nat (f : Nat) (vs : List SV) (e : Env) (K : SV → Env → Option ρ) : ∀ (Δ : List (Nat × Con)),evCall k f vs e K Δ = (evCall k f vs e pr Δ).bind fun p=>K p.1 p.2
 | []=>rfl
 | (g,c) :: r=>by
  have ih:=evCall_nat f vs e K r
  simp only [evCall]
  cases Nat.beq f g with
  | false=>exact ih
  | true =>
   simp only
   cases c.gen with
   | true=>exact evCallG_nat _ _ _ _ _
   | false =>
   simp only
   cases y149q c.res with
   | true =>
    simp only
    cases y48q false e.objs c.args vs with
    | none=>exact ih
    | some x=>simp only [bnd_bind,Option.bind_some]
   | false =>
    simp only
    cases y48q true (e.freeze (y75q e.objs vs)).objs c.args vs with
    | none=>exact ih
    | some x=>simp only [bnd_bind,Option.bind_some]
theorem evBuiltin_nat (b : Builtin) (kd : Bool) (ts : List Nat) (vs : List SV) (e : Env) (K : SV → Env → Option ρ) : evBuiltin Γ b kd ts vs e K = (evBuiltin Γ b kd ts vs e pr).bind fun p=>K p.1 p.2:=by
 unfold evBuiltin
 repeat' split
 all_goals first | with_reducible rfl | with_reducible exact evAppend_nat _ _ _ _ _ | with_reducible exact evAppendN_nat _ _ _ _ | rfl
theorem evIndexArr_nat (ti : TI) (v : SV) (n : Int) (e : Env) (K : SV → Env → Option ρ) : y150q Γ ti v n e K = (y150q Γ ti v n e pr).bind fun p=>K p.1 p.2:=by
 unfold y150q
 repeat' split
 all_goals first | rfl | simp only [y59q,Option.bind_some]
theorem evSort_nat (f T id h : Nat) (cs : List Cap) (e : Env) (K : SV → Env → Option ρ) : evSort Γ Δ k f T id h cs e K = (evSort Γ Δ k f T id h cs e pr).bind fun p=>K p.1 p.2:=by
 unfold evSort
 repeat' split
 all_goals first | rfl | simp only [y59q,bnd_bind,Option.bind_some]
theorem evOp_nat (o : Op) (e : Env) (K : SV → Env → Option ρ) : evOp Γ Δ k o e K = (evOp Γ Δ k o e pr).bind fun p=>K p.1 p.2:=by
 cases o with
 | move x=>simp only [evOp]; split <;> rfl
 | assign x=>simp only [evOp]; split <;> rfl
 | pick c a b =>
  simp only [evOp]
  split
  ·rw [br_bind]
   congr 1 <;> (split <;> rfl)
  ·rfl
 | alloc T=>simp only [evOp]; split <;> rfl
 | box T x =>
  simp only [evOp]
  repeat' split
  all_goals rfl
 | makeInterface T x =>
  simp only [evOp]
  repeat' split
  all_goals rfl
 | build T ps =>
  simp only [evOp]
  repeat' split
  all_goals rfl
 | buildSlice T n ps =>
  simp only [evOp]
  repeat' split
  all_goals rfl
 | load T a =>
  simp only [evOp]
  split
  ·exact evLoad_nat _ _ _ _
  ·rfl
 | makeMap T r =>
  simp only [evOp]
  repeat' split
  all_goals rfl
 | mapUpdate T m x y =>
  simp only [evOp]
  split
  ·exact evMapSet_nat _ _ _ _ _ _
  ·rfl
 | lookup T m x ok =>
  simp only [evOp]
  split
  ·exact evLookup_nat _ _ _ _ _ _
  ·rfl
 | store T a x =>
  simp only [evOp]
  split
  ·split
   ·rfl
   ·exact evStore_nat _ _ _ _ _
  ·rfl
 | nilCheck x=>simp only [evOp]; split <;> rfl
 | binOp op T x y yT =>
  simp only [evOp]
  split
  ·split
   ·rfl
   ·rw [evBin_nat,evBin_nat _ _ _ _ (fun v=>pr v e)]; exact with_env _ _
  ·rfl
 | unOp op T x =>
  simp only [evOp]
  split
  ·rw [evUn_nat,evUn_nat _ _ (fun v=>pr v e)]; exact with_env _ _
  ·rfl
 | convert s d x =>
  simp only [evOp]
  split
  ·exact evConv_nat _ _ _ _ _
  ·rfl
 | makeFunc fn first caps =>
  cases fn <;> simp only [evOp] <;> first | rfl | (split <;> rfl)
 | makeSlice T l c =>
  simp only [evOp]
  repeat' split
  all_goals first | rfl | simp only [y59q,Option.bind_some]
 | slice T x lo hi mx =>
  cases mx with
  | some=>simp only [evOp]; rfl
  | none =>
   simp only [evOp]
   split
   ·exact evSlice_nat _ _ _ _ _ _
   ·rfl
 | fieldAddr T x i =>
  simp only [evOp]
  repeat' split
  all_goals rfl
 | field T x i =>
  simp only [evOp]
  repeat' split
  all_goals rfl
 | indexAddr T x i =>
  simp only [evOp]
  split
  ·rw [evIndexAddr_nat,evIndexAddr_nat _ _ _ _ (fun v=>pr v e)]; exact with_env _ _
  ·rfl
 | index T x i =>
  simp only [evOp]
  repeat' split
  all_goals first | rfl | exact evIndexArr_nat _ _ _ _ _ | simp only [y59q,Option.bind_some]
 | extract x i =>
  simp only [evOp]
  repeat' split
  all_goals rfl
 | call c =>
  obtain ⟨callee,args,ts⟩:=c
  cases callee with
  | builtin b =>
   simp only [evOp]
   split
   ·exact evBuiltin_nat _ _ _ _ _ _
   ·rfl
  | value f =>
   simp only [evOp]
   split
   ·split
    ·exact evSort_nat _ _ _ _ _ _ _
    ·exact evCall_nat _ _ _ _ _
   ·rfl
  | invoke r n=>simp only [evOp]; rfl
 | _=>simp only [evOp]; rfl
end
end Go.Ev
end
section
namespace Go.Ev
open Go.RowKit (Below)
def ovr {α : Type} (f : Nat → Option (Option α)) (S : Nat → Option α) : Nat → Option α:=fun x=>match f x with
 | some v=>v
 | none=>S x
def foldW {α : Type} (L : Nat → Bool) : Nat → List (Nat → Option (Option α)) → (Nat → Option α) → Nat → Option α
 | _,[],S=>S
 | j,f :: r,S=>foldW L (j + 1) r (match L j with
  | true=>ovr f S
  | false=>S)
section
variable {α : Type}
theorem y62q {L L' : Nat → Bool} (x : Nat) : ∀ (T : List (Nat → Option (Option α))) (j : Nat) (S S' : Nat → Option α),S x = S' x → (∀ k f,T[k]? = some f → f x ≠ none → L (j + k) = L' (j + k)) → foldW L j T S x = foldW L' j T S' x
 | [],_,_,_,h,_=>h
 | f :: r,j,S,S',h,hk=>by
  simp only [foldW]
  refine y62q x r (j + 1) _ _ ?_ fun k g hg hx=>?_
  ·cases hf : f x with
   | none =>
    have e1 : ∀ S : Nat → Option α,ovr f S x = S x:=fun S=>by simp [ovr,hf]
    cases L j <;> cases L' j <;> simp only [e1,h]
   | some v =>
    have:=hk 0 f rfl (by rw [hf]; simp)
    rw [Nat.add_zero] at this
    rw [this]
    cases L' j
    ·exact h
    ·simp [ovr,hf]
  ·have:=hk (k + 1) g (by simpa using hg) hx
   rwa [show j + 1 + k = j + (k + 1) from by omega]
theorem foldW_none {L : Nat → Bool} (x : Nat) : ∀ (T : List (Nat → Option (Option α))) (j : Nat) (S : Nat → Option α),(∀ k f,T[k]? = some f → L (j + k) = true → f x = none) → foldW L j T S x = S x
 | [],_,_,_=>rfl
 | f :: r,j,S,hk=>by
  simp only [foldW]
  rw [foldW_none x r (j + 1) _ fun k g hg hL=>hk (k + 1) g (by simpa using hg) (by rwa [show j + (k + 1) = j + 1 + k from by omega])]
  cases hL : L j with
  | false=>rfl
  | true =>
   have:=hk 0 f rfl (by simpa using hL)
   simp [ovr,this]
theorem foldW_hit {L : Nat → Bool} (x : Nat) (v : Option α) : ∀ (T : List (Nat → Option (Option α))) (j : Nat) (S : Nat → Option α) (k : Nat) (f : Nat → Option (Option α)),T[k]? = some f → f x = some v → L (j + k) = true →
  (∀ k' f',k < k' → T[k']? = some f' → L (j + k') = true → f' x = none) → foldW L j T S x = v
 | [],_,_,k,f,h,_,_,_=>by simp at h
 | g :: r,j,S,0,f,h,hx,hL,hk=>by
  simp only [List.getElem?_cons_zero,Option.some.injEq] at h
  subst h
  simp only [foldW]
  rw [Nat.add_zero] at hL
  rw [hL]
  rw [foldW_none x r (j + 1) _ fun k f' hf hL'=>hk (k + 1) f' (by omega) (by simpa using hf) (by rwa [show j + (k + 1) = j + 1 + k from by omega])]
  simp [ovr,hx]
 | g :: r,j,S,k + 1,f,h,hx,hL,hk=>by
  simp only [foldW]
  exact foldW_hit x v r (j + 1) _ k f (by simpa using h) hx (by rwa [show j + 1 + k = j + (k + 1) from by omega]) fun k' f' hlt hf hL'=>hk (k' + 1) f' (by omega) (by simpa using hf) (by rwa [show j + (k' + 1) = j + 1 + k' from by omega])
end
theorem find_only {α : Type} : ∀ (fp : List Nat) (l : List (Nat × α)) (i : Nat),find (only fp l) i = if i ∈ fp then find l i else none
 | fp,[],i=>by simp [only,find]
 | fp,(k,v) :: r,i=>by
  have ih:=find_only fp r i
  simp only [only]
  cases hm : memN fp k with
  | true =>
   have hk:=(y81q fp k).1 hm
   simp only [find]
   cases hb : Nat.beq k i with
   | true =>
    have:=Nat.eq_of_beq_eq_true hb
    subst this
    simp [hk]
   | false=>simp only; exact ih
  | false =>
   have hk : k ∉ fp:=fun h=>by rw [(y81q fp k).2 h] at hm; cases hm
   simp only [ih,find]
   cases hb : Nat.beq k i with
   | true =>
    have:=Nat.eq_of_beq_eq_true hb
    subst this
    simp [hk]
   | false=>rfl
theorem y115q {α : Type} : ∀ (fp : List Nat) (l : List (Nat × α)) (i : Nat),find (y77q fp l) i = if i ∈ fp then none else find l i
 | fp,[],i=>by simp [y77q,find]
 | fp,(k,v) :: r,i=>by
  have ih:=y115q fp r i
  simp only [y77q]
  cases hm : memN fp k with
  | true =>
   have hk:=(y81q fp k).1 hm
   simp only [ih,find]
   cases hb : Nat.beq k i with
   | true =>
    have:=Nat.eq_of_beq_eq_true hb
    subst this
    simp [hk]
   | false=>rfl
  | false =>
   have hk : k ∉ fp:=fun h=>by rw [(y81q fp k).2 h] at hm; cases hm
   simp only [find]
   cases hb : Nat.beq k i with
   | true =>
    have:=Nat.eq_of_beq_eq_true hb
    subst this
    simp [hk]
   | false=>simp only; exact ih
theorem find_mix {α : Type} (ws : List Nat) (a b : List (Nat × α)) (i : Nat) : find (only ws a ++ y77q ws b) i = if i ∈ ws then find a i else find b i:=by
 rw [y29q,find_only,y115q]
 by_cases h : i ∈ ws
 ·simp only [h,if_true]
  cases find a i <;> rfl
 ·simp only [h,if_false]
theorem binding_eq (x : Edge) : Region.binds .any x = y58q x:=by
 unfold Region.binds y58q
 cases x.ground <;> rfl
theorem ancOf_spec {j : Nat} {known : List (Nat × List Nat)} : ∀ (es : List Edge) (a : Nat),a ∈ ancOf j known es → ∃ x ∈ es,y58q x = true ∧ x.on < j ∧ (a = x.on ∨ ∃ l,find known x.on = some l ∧ a ∈ l)
 | [],a,h=>by simp [ancOf] at h
 | x :: r,a,h=>by
  have ih:=ancOf_spec (j:=j) (known:=known) r a
  have up : a ∈ ancOf j known r → ∃ y ∈ x :: r,y58q y = true ∧ y.on < j ∧ (a = y.on ∨ ∃ l,find known y.on = some l ∧ a ∈ l):=fun h=>by
   obtain ⟨y,hy,h⟩:=ih h
   exact ⟨y,List.mem_cons_of_mem _ hy,h⟩
  simp only [ancOf] at h
  cases hb : y58q x with
  | false=>rw [hb] at h; exact up h
  | true =>
   cases hl : Nat.blt x.on j with
   | false=>rw [hb,hl] at h; exact up h
   | true =>
    rw [hb,hl] at h
    simp only at h
    have hlt : x.on < j:=Nat.le_of_ble_eq_true hl
    cases hf : find known x.on with
    | none =>
     rw [hf] at h
     rcases List.mem_cons.1 h with h | h
     ·exact ⟨x,List.mem_cons_self,hb,hlt, .inl h⟩
     ·exact up h
    | some l =>
     rw [hf] at h
     rcases List.mem_append.1 h with h | h
     ·rcases List.mem_cons.1 h with h | h
      ·exact ⟨x,List.mem_cons_self,hb,hlt, .inl h⟩
      ·exact ⟨x,List.mem_cons_self,hb,hlt, .inr ⟨l,hf,h⟩⟩
     ·exact up h
theorem mem_uniqL {a : Nat} : ∀ (l acc : List Nat),a ∈ uniqL acc l → a ∈ acc ∨ a ∈ l
 | [],acc,h=>.inl h
 | x :: l,acc,h=>by
  simp only [uniqL] at h
  split at h
  ·exact (mem_uniqL l acc h).imp id (List.mem_cons_of_mem _)
  ·rcases mem_uniqL l (x :: acc) h with h | h
   ·rcases List.mem_cons.1 h with h | h
    ·exact .inr (h ▸ List.mem_cons_self)
    ·exact .inl h
   ·exact .inr (List.mem_cons_of_mem _ h)
theorem ancs_spec : ∀ (rest : List Oper) (j : Nat) (known : List (Nat × List Nat)),(∀ i,j ≤ i → find known i = none) →
  (∀ i,i < j → find (ancs j rest known) i = find known i) ∧ (∀ i l,find (ancs j rest known) i = some l → j ≤ i → ∃ o,rest[i - j]? = some o ∧ ∀ a ∈ l,∃ x ∈ o.after.toList,y58q x = true ∧ x.on < i ∧ (a = x.on ∨ ∃ l',find (ancs j rest known) x.on = some l' ∧ a ∈ l'))
 | [],j,known,hk=>⟨fun _ _=>rfl,fun i l h hi=>by simp only [ancs] at h; rw [hk i hi] at h; cases h⟩
 | o :: r,j,known,hk=>by
  simp only [ancs]
  have hk' : ∀ i,j + 1 ≤ i → find ((j,uniqL [] (ancOf j known o.after.toList)) :: known) i = none:=fun i hi=>by
   rw [y14q,if_neg (by omega)]
   exact hk i (by omega)
  obtain ⟨h1,h2⟩:=ancs_spec r (j + 1) _ hk'
  refine ⟨fun i hi=>?_,fun i l h hi=>?_⟩
  ·rw [h1 i (by omega),y14q,if_neg (by omega)]
  ·by_cases hij : i = j
   ·subst hij
    have hf:=h1 i (by omega)
    rw [h,y14q,if_pos rfl] at hf
    obtain rfl:=Option.some.inj hf
    refine ⟨o,by simp,fun a ha=>?_⟩
    obtain ⟨x,hx,hb,hlt,hc⟩:=ancOf_spec _ a ((mem_uniqL _ _ ha).resolve_left (by simp))
    refine ⟨x,hx,hb,hlt,hc.imp id fun ⟨l',hl',ha'⟩=>⟨l', ?_,ha'⟩⟩
    rw [h1 x.on (by omega),y14q,if_neg (by omega)]
    exact hl'
   ·obtain ⟨o',ho',ha⟩:=h2 i l h (by omega)
    refine ⟨o', ?_,ha⟩
    have e1 : i - j = (i - (j + 1)) + 1:=by omega
    rw [e1,List.getElem?_cons_succ]
    exact ho'
theorem anc_done {all : List Oper} {L : Nat → Prop} (hL : ∀ j o,all[j]? = some o → L j → ∀ x ∈ o.after.toList,y58q x = true → L x.on) :
  ∀ (j : Nat) (l : List Nat),find (ancs 0 all []) j = some l → (∀ o,all[j]? = some o → ∀ x ∈ o.after.toList,y58q x = true → L x.on) → ∀ a ∈ l,L a:=by
 obtain ⟨_,h2⟩:=ancs_spec all 0 [] (fun i _=>rfl)
 intro j
 induction j using Nat.strongRecOn with
 | _ j ih =>
  intro l hl he a ha
  obtain ⟨o,ho,hx⟩:=h2 j l hl (Nat.zero_le _)
  rw [Nat.sub_zero] at ho
  obtain ⟨x,hxm,hb,hlt,hc⟩:=hx a ha
  have hLx:=he o ho x hxm hb
  rcases hc with rfl | ⟨l',hl',ha'⟩
  ·exact hLx
  ·exact ih x.on hlt l' hl' (fun o' ho' y hy hby=>hL x.on o' ho' hLx y hy hby) a ha'
theorem tmpsOf_mem {t : Nat} : ∀ {l : List Operand},t ∈ tmpsOf l ↔ .tmp t ∈ l
 | []=>by simp [tmpsOf]
 | o :: r=>by
  have ih:=tmpsOf_mem (t:=t) (l:=r)
  cases o <;> simp [tmpsOf,ih]
theorem looks_ops {all : List Oper} {o : Oper} {t : Nat} (h : t ∈ tmpsOf o.op.operands.toList) : t ∈ looks all o:=by
 unfold looks
 split
 ·exact h
 ·split
  ·split
   ·exact List.mem_cons_of_mem _ h
   ·exact h
  ·exact h
theorem looks_guard {all : List Oper} {o p : Oper} {g s : Nat} {want : Bool} (h1 : o.guard = some (g,want)) (h2 : nth all g = some p) (h3 : p.dst = some s) : s ∈ looks all o:=by
 unfold looks
 rw [h1]
 simp only [h2,h3]
 exact List.mem_cons_self
theorem dstIn_false {d : Option Nat} {l : List Nat} (h : dstIn d l = false) : ∀ t,d = some t → t ∉ l:=by
 intro t ht hm
 subst ht
 simp only [dstIn] at h
 rw [(y81q l t).2 hm] at h
 cases h
theorem y132q {all : List Oper} {x y : Oper} (h : y121q all x y = true) : (∀ t,x.dst = some t → t ∉ looks all y) ∧ (∀ t,y.dst = some t → t ∉ looks all x) ∧ ∀ t,x.dst = some t → y.dst ≠ some t:=by
 unfold y121q at h
 cases h1 : dstIn x.dst (looks all y) with
 | true=>simp [h1] at h
 | false =>
  cases h2 : dstIn y.dst (looks all x) with
  | true=>simp [h1,h2] at h
  | false =>
   cases h3 : dstEq x.dst y.dst with
   | true=>simp [h1,h2,h3] at h
   | false =>
    refine ⟨dstIn_false h1,dstIn_false h2,fun t ht hy=>?_⟩
    rw [ht,hy] at h3
    simp [dstEq] at h3
theorem pairsOk_spec {all : List Oper} {y : Oper} {anc : List Nat} : ∀ (l : List Oper) (k0 : Nat),pairsOk all y anc k0 l = true → ∀ k x,l[k]? = some x → k0 + k ∈ anc ∨ y121q all x y = true
 | [],_,_,k,x,h=>by simp at h
 | z :: r,k0,h,k,x,hx=>by
  have hr : (memN anc k0 = true ∨ y121q all z y = true) ∧ pairsOk all y anc (k0 + 1) r = true:=by
   simp only [pairsOk] at h
   cases h1 : memN anc k0 with
   | true=>rw [h1] at h; exact ⟨.inl rfl,h⟩
   | false =>
    rw [h1] at h
    simp only at h
    cases h2 : y121q all z y with
    | true=>rw [h2] at h; exact ⟨.inr rfl,h⟩
    | false=>simp [h2] at h
  cases k with
  | zero =>
   simp only [List.getElem?_cons_zero,Option.some.injEq] at hx
   subst hx
   exact hr.1.imp (y81q anc k0).1 id
  | succ k =>
   have:=pairsOk_spec r (k0 + 1) hr.2 k x (by simpa using hx)
   rwa [show k0 + (k + 1) = k0 + 1 + k from by omega]
theorem edgesBack_spec {j : Nat} : ∀ {es : List Edge},edgesBack j es = true → ∀ x ∈ es,y58q x = true → x.on < j
 | [],_,x,h,_=>by simp at h
 | y :: r,h,x,hx,hb=>by
  have hr : (y58q y = true → y.on < j) ∧ edgesBack j r = true:=by
   simp only [edgesBack] at h
   cases h1 : y58q y with
   | false=>rw [h1] at h; exact ⟨fun q=>(by cases q),h⟩
   | true =>
    cases h2 : Nat.blt y.on j with
    | false=>simp [h1,h2] at h
    | true=>rw [h1,h2] at h; exact ⟨fun _=>Nat.le_of_ble_eq_true h2,h⟩
  rcases List.mem_cons.1 hx with e | e
  ·subst e; exact hr.1 hb
  ·exact edgesBack_spec hr.2 x e hb
theorem y116q {all : List Oper} {an : List (Nat × List Nat)} : ∀ (rest : List Oper) (j : Nat),slotsOk all an j rest = true → ∀ i y,rest[i]? = some y →
  ∃ anc,find an (j + i) = some anc ∧ (∀ k x,k < j + i → all[k]? = some x → k ∈ anc ∨ y121q all x y = true) ∧ edgesBack (j + i) y.after.toList = true
 | [],_,_,i,y,h=>by simp at h
 | z :: r,j,h,i,y,hy=>by
  simp only [slotsOk] at h
  cases hf : find an j with
  | none=>simp [hf] at h
  | some anc =>
   simp only [hf] at h
   cases h1 : pairsOk all z anc 0 (takeN j all) with
   | false=>simp [h1] at h
   | true =>
    cases h2 : edgesBack j z.after.toList with
    | false=>simp [h1,h2] at h
    | true =>
     simp only [h1,h2] at h
     cases i with
     | zero =>
      simp only [List.getElem?_cons_zero,Option.some.injEq] at hy
      subst hy
      refine ⟨anc,hf,fun k x hk hx=>?_,h2⟩
      have:=pairsOk_spec _ _ h1 k x (by rw [takeN_eq,List.getElem?_take,if_pos (by omega)]; exact hx)
      rwa [Nat.zero_add] at this
     | succ i =>
      have:=y116q r (j + 1) h i y (by simpa using hy)
      rwa [show j + (i + 1) = j + 1 + i from by omega]
theorem apartN_spec : ∀ {l l' : List Nat},apartN l l' = true → ∀ a ∈ l,a ∉ l'
 | [],_,_,a,h=>by simp at h
 | b :: r,l',h,a,ha=>by
  simp only [apartN] at h
  cases hm : memN l' b with
  | true=>simp [hm] at h
  | false =>
   rw [hm] at h
   rcases List.mem_cons.1 ha with e | e
   ·subst e
    intro hx
    rw [(y81q l' a).2 hx] at hm
    cases hm
   ·exact apartN_spec h a e
theorem clear_spec {anc fp wr : List Nat} : ∀ {rs : List Rc},clear anc fp wr rs = true → ∀ q ∈ rs,q.i ∈ anc ∨ (∀ a ∈ q.wr,a ∉ fp) ∧ ∀ a ∈ q.fp,a ∉ wr
 | [],_,q,h=>by simp at h
 | p :: r,h,q,hq=>by
  have hr : (p.i ∈ anc ∨ (∀ a ∈ p.wr,a ∉ fp) ∧ ∀ a ∈ p.fp,a ∉ wr) ∧ clear anc fp wr r = true:=by
   simp only [clear] at h
   cases h1 : memN anc p.i with
   | true=>rw [h1] at h; exact ⟨.inl ((y81q _ _).1 h1),h⟩
   | false =>
    rw [h1] at h
    simp only at h
    cases h2 : apartN p.wr fp with
    | false=>simp [h2] at h
    | true =>
     cases h3 : apartN p.fp wr with
     | false=>simp [h2,h3] at h
     | true=>rw [h2,h3] at h; exact ⟨.inr ⟨apartN_spec h2,apartN_spec h3⟩,h⟩
  rcases List.mem_cons.1 hq with e | e
  ·subst e; exact hr.1
  ·exact clear_spec hr.2 q e
end Go.Ev
end
section
namespace Go.Ev
open Go.RowKit (Below)
structure Tr where
 dst : Option Nat
 sv : SV
 did : Bool
 n : Nat
 fp : List Nat
 wr : List Nat
 out : Nat → Option Obj
def wS (x : Tr) : Nat → Option (Option SV):=fun t=>if x.dst = some t then some (some x.sv) else none
def wO (x : Tr) : Nat → Option (Option Obj):=fun i=>if x.did = true ∧ i ∈ names nmW x.n ++ x.wr then some (x.out i) else none
def rcOf (j : Nat) (x : Tr) : Rc:=⟨j,names nmW x.n ++ x.fp,names nmW x.n ++ x.wr⟩
def Cl (an : List (Nat × List Nat)) (q : Rc) (j : Nat) (x : Tr) : Prop:=∃ anc,find an j = some anc ∧ (q.i ∈ anc ∨ (∀ a ∈ q.wr,a ∉ names nmW x.n ++ x.fp) ∧ ∀ a ∈ q.fp,a ∉ names nmW x.n ++ x.wr)
section
variable (Γ : Tab) (Δ : List (Nat × Con)) (k : Nat) (all : List Oper) (an : List (Nat × List Nat)) (n0 : Nat)
def Guarded (o : Oper) (S : Nat → Option SV) (ok : Bool → SV → Prop) : Prop:=∃ g want p s sv,o.guard = some (g,want) ∧ nth all g = some p ∧ p.dst = some s ∧ S s = some sv ∧ ok want sv
def Fact (j : Nat) (o : Oper) (x : Tr) (S : Nat → Option SV) (O : Nat → Option Obj) : Prop :=
 x.dst = o.dst ∧ x.n = n0 + nmW * j ∧
 ((x.did = true ∧ (o.guard = none ∨ Guarded all o S fun want sv=>sv = .one (.b want)) ∧ (reads o.op = true ∧ x.wr = [] ∨ x.wr = x.fp) ∧
  ∃ E0 e1,(∀ t,find E0.slots t = if t ∈ tmpsOf o.op.operands.toList then S t else none) ∧ (∀ i,find E0.objs i = if i ∈ x.fp then O i else none) ∧ E0.next = x.n ∧ evOp Γ Δ k o.op E0 pr = some (x.sv,e1) ∧ x.out = find e1.objs) ∨
 (x.did = false ∧ x.sv = .tup [] ∧ Guarded all o S fun want sv=>sv = .one (.b (!want)) ∨ sv = .tup []))
def TrS : Nat → List Oper → List Tr → (Nat → Option SV) → (Nat → Option Obj) → Prop
 | _,[],[],_,_=>True
 | j,o :: r,x :: xs,S,O=>Fact Γ Δ k all n0 j o x S O ∧ TrS (j + 1) r xs (ovr (wS x) S) (ovr (wO x) O)
 | _,_,_,_,_=>False
end
section
variable {Γ : Tab} {Δ : List (Nat × Con)} {k : Nat} {all : List Oper} {an : List (Nat × List Nat)} {n0 : Nat} {ρ : Type}
theorem TrS.length : ∀ {l : List Oper} {T : List Tr} {j : Nat} {S : Nat → Option SV} {O : Nat → Option Obj},TrS Γ Δ k all n0 j l T S O → T.length = l.length
 | [],[],_,_,_,_=>rfl
 | o :: r,x :: xs,_,_,_,h=>by simp [TrS.length h.2]
 | [],_ :: _,_,_,_,h=>by simp [TrS] at h
 | _ :: _,[],_,_,_,h=>by simp [TrS] at h
theorem y92q {α : Type} {L : Nat → Bool} {T : List (Nat → Option (Option α))} {j : Nat} {S : Nat → Option α} (h : ∀ i,j ≤ i → L i = false) : foldW L j T S = S:=by
 funext x
 exact foldW_none x T j S fun k f _ hL=>by rw [h (j + k) (by omega)] at hL; cases hL
theorem TrS.get : ∀ {l : List Oper} {T : List Tr} {j : Nat} {S : Nat → Option SV} {O : Nat → Option Obj},TrS Γ Δ k all n0 j l T S O → ∀ i o x,l[i]? = some o → T[i]? = some x →
  Fact Γ Δ k all n0 (j + i) o x (foldW (fun q=>decide (q < j + i)) j (T.map wS) S) (foldW (fun q=>decide (q < j + i)) j (T.map wO) O)
 | [],_,_,_,_,_,i,o,x,h,_=>by simp at h
 | o :: r,[],_,_,_,h,_,_,_,_,_=>by simp [TrS] at h
 | o :: r,x :: xs,j,S,O,h,0,o',x',ho,hx=>by
  simp only [List.getElem?_cons_zero,Option.some.injEq] at ho hx
  subst ho; subst hx
  rw [y92q (fun q hq=>by simp; omega),y92q (fun q hq=>by simp; omega)]
  exact h.1
 | o :: r,x :: xs,j,S,O,h,i + 1,o',x',ho,hx=>by
  have:=TrS.get h.2 i o' x' (by simpa using ho) (by simpa using hx)
  have e1 : j + (i + 1) = j + 1 + i:=by omega
  rw [e1]
  have hj : decide (j < j + 1 + i) = true:=by simp; omega
  simp only [List.map_cons,foldW,hj]
  exact this
theorem mem_names : ∀ {w n i : Nat},i ∈ names w n ↔ n ≤ i ∧ i < n + w
 | 0,n,i=>by simp [names]
 | w + 1,n,i=>by
  simp only [names,List.mem_cons,mem_names (w:=w) (n:=n + 1) (i:=i)]
  omega
theorem find_put (e : Env) (d : Option Nat) (sv : SV) : find (e.put d sv).slots = ovr (fun t=>if d = some t then some (some sv) else none) (find e.slots):=by
 funext t
 cases d with
 | none=>simp [Env.put,ovr]
 | some d =>
  simp only [Env.put,Env.set,y14q,ovr,Option.some.injEq]
  by_cases h : d = t
  ·simp [h]
  ·simp [h]
theorem note (o : Oper) {j : Nat} {rs : List Rc} {e : Env} {r : ρ} {K : List Rc → Env → Option ρ} (hn : e.next = n0 + nmW * j) (hg : o.guard = none ∨ Guarded all o (find e.slots) fun want sv=>sv = .one (.b want))
  (h : evOpD Γ Δ k an o j rs e K = some r) : ∃ x e',Fact Γ Δ k all n0 j o x (find e.slots) (find e.objs) ∧ x.did = true ∧ (∀ q ∈ rs,Cl an q j x) ∧ K (rcOf j x :: rs) e' = some r ∧ find e'.slots = ovr (wS x) (find e.slots) ∧ find e'.objs = ovr (wO x) (find e.objs) ∧ e'.next = n0 + nmW * (j + 1):=by
 unfold evOpD at h
 rw [evOp_nat] at h
 generalize hE : (⟨only (tmpsOf o.op.operands.toList) e.slots,only (footO e o.op) e.objs,e.next⟩ : Env) = E0 at h
 cases hev : evOp Γ Δ k o.op E0 pr with
 | none=>simp [hev] at h
 | some p =>
  obtain ⟨sv,e1⟩:=p
  rw [hev] at h
  simp only [Option.bind_some] at h
  generalize hfp : footO e o.op = fp at h hE
  cases ha : find an j with
  | none=>simp [ha] at h
  | some anc =>
   simp only [ha] at h
   cases hc : clear anc (names nmW e.next ++ fp) (names nmW e.next ++ wrOf o.op fp) rs with
   | false=>simp [hc] at h
   | true =>
    simp only [hc] at h
    have hcl:=clear_spec hc
    let x : Tr:=⟨o.dst,sv,true,e.next,fp,wrOf o.op fp,find e1.objs⟩
    refine ⟨x,_,⟨rfl,hn, .inl ⟨rfl,hg, ?_,E0,e1, ?_, ?_, ?_,hev,rfl⟩⟩,rfl,fun q hq=>⟨anc,ha,hcl q hq⟩,h, ?_, ?_, ?_⟩
    ·simp only [x,wrOf]
     cases reads o.op with
     | true=>exact .inl ⟨rfl,rfl⟩
     | false=>exact .inr rfl
    ·intro t
     rw [← hE]
     exact find_only _ _ _
    ·intro i
     rw [← hE]
     exact find_only _ _ _
    ·rw [← hE]
    ·exact find_put _ _ _
    ·rw [put_objs]
     funext i
     simp only [find_mix,ovr,wO,x,true_and]
     by_cases hi : i ∈ names nmW e.next ++ wrOf o.op fp
     ·simp only [hi,if_true]
     ·simp only [hi,if_false]
    ·rw [put_next]
     show e.next + nmW = _
     rw [hn,Nat.mul_add,Nat.mul_one]; omega
theorem noteSkip (o : Oper) {j : Nat} {e : Env} (hn : e.next = n0 + nmW * j) (hg : Guarded all o (find e.slots) fun want sv=>sv = .one (.b (!want)) ∨ sv = .tup []) :
  ∃ x,Fact Γ Δ k all n0 j o x (find e.slots) (find e.objs) ∧ x.did = false ∧ find (skipD o e).slots = ovr (wS x) (find e.slots) ∧ find (skipD o e).objs = ovr (wO x) (find e.objs) ∧ (skipD o e).next = n0 + nmW * (j + 1):=by
 let x : Tr:=⟨o.dst, .tup [],false,n0 + nmW * j,[],[],fun _=>none⟩
 refine ⟨x,⟨rfl,rfl, .inr ⟨rfl,rfl,hg⟩⟩,rfl, ?_, ?_, ?_⟩
 ·unfold skipD
  exact find_put _ _ _
 ·unfold skipD
  rw [put_objs]
  funext i
  simp [ovr,wO,x]
 ·unfold skipD
  rw [put_next]
  show e.next + nmW = _
  rw [hn,Nat.mul_add,Nat.mul_one]; omega
def Traced (Γ : Tab) (Δ : List (Nat × Con)) (k : Nat) (all : List Oper) (an : List (Nat × List Nat)) (n0 : Nat) (K : Env → Option ρ) (r : ρ) (l : List Oper) (j : Nat) (rs : List Rc) (S : Nat → Option SV) (O : Nat → Option Obj) : Prop :=
 ∃ T ef,TrS Γ Δ k all n0 j l T S O ∧ K ef = some r ∧ ef.next = n0 + nmW * (j + l.length) ∧ find ef.slots = foldW (fun _=>true) j (T.map wS) S ∧ find ef.objs = foldW (fun _=>true) j (T.map wO) O ∧
  (∀ q ∈ rs,∀ i x,T[i]? = some x → x.did = true → Cl an q (j + i) x) ∧ ∀ i i' x x',i < i' → T[i]? = some x → T[i']? = some x' → x.did = true → x'.did = true → Cl an (rcOf (j + i) x) (j + i') x'
theorem trace {K : Env → Option ρ} {r : ρ} : ∀ (l : List Oper) (j : Nat) (rs : List Rc) (e : Env),e.next = n0 + nmW * j → evOpsD Γ Δ k all an l j rs e K = some r →
  Traced Γ Δ k all an n0 K r l j rs (find e.slots) (find e.objs)
 | [],j,rs,e,hn,h=>⟨[],e,trivial,h,by simpa using hn,rfl,rfl,fun q _ i x hx=>by simp at hx,fun i i' x x' _ hx=>by simp at hx⟩
 | o :: l,j,rs,e,hn,h=>by
  have join : ∀ (x : Tr) (rs' : List Rc) (e' : Env),Fact Γ Δ k all n0 j o x (find e.slots) (find e.objs) → (x.did = true → (∀ q ∈ rs,Cl an q j x) ∧ rcOf j x ∈ rs') → (∀ q ∈ rs,q ∈ rs') →
    find e'.slots = ovr (wS x) (find e.slots) → find e'.objs = ovr (wO x) (find e.objs) → e'.next = n0 + nmW * (j + 1) → evOpsD Γ Δ k all an l (j + 1) rs' e' K = some r →
    Traced Γ Δ k all an n0 K r (o :: l) j rs (find e.slots) (find e.objs):=by
   intro x rs' e' hF hd hrs hs ho hn' h'
   obtain ⟨T,ef,g1,g2,g3,g4,g5,g6,g7⟩:=trace l (j + 1) rs' e' hn' h'
   rw [hs,ho] at g1
   rw [hs] at g4
   rw [ho] at g5
   refine ⟨x :: T,ef,⟨hF,g1⟩,g2, ?_,g4,g5, ?_, ?_⟩
   ·rw [g3,List.length_cons]
    congr 2
    omega
   ·intro q hq i y hy hdy
    cases i with
    | zero =>
     simp only [List.getElem?_cons_zero,Option.some.injEq] at hy
     subst hy
     exact (hd hdy).1 q hq
    | succ i =>
     have:=g6 q (hrs q hq) i y (by simpa using hy) hdy
     rwa [show j + (i + 1) = j + 1 + i from by omega]
   ·intro i i' y y' hlt hy hy' hdy hdy'
    cases i' with
    | zero=>omega
    | succ i' =>
     cases i with
     | zero =>
      simp only [List.getElem?_cons_zero,Option.some.injEq] at hy
      subst hy
      have:=g6 _ (hd hdy).2 i' y' (by simpa using hy') hdy'
      rwa [show j + (i' + 1) = j + 1 + i' from by omega]
     | succ i =>
      have:=g7 i i' y y' (by omega) (by simpa using hy) (by simpa using hy') hdy hdy'
      rwa [show j + (i' + 1) = j + 1 + i' from by omega,show j + (i + 1) = j + 1 + i from by omega]
  have doit : ∀ e1 : Env,find e1.slots = find e.slots → find e1.objs = find e.objs → e1.next = e.next → (o.guard = none ∨ Guarded all o (find e1.slots) fun want sv=>sv = .one (.b want)) →
    evOpD Γ Δ k an o j rs e1 (fun rs' e'=>evOpsD Γ Δ k all an l (j + 1) rs' e' K) = some r → Traced Γ Δ k all an n0 K r (o :: l) j rs (find e.slots) (find e.objs):=fun e1 h1 h2 h3 hg h'=>by
   obtain ⟨x,e',g1,g2,g3,g4,g5,g6,g7⟩:=note (all:=all) o (h3.trans hn) hg h'
   rw [h1,h2] at g1
   rw [h1] at g5
   rw [h2] at g6
   exact join x _ e' g1 (fun _=>⟨g3,List.mem_cons_self⟩) (fun q hq=>List.mem_cons_of_mem _ hq) g5 g6 g7 g4
  have skip : ∀ e1 : Env,find e1.slots = find e.slots → find e1.objs = find e.objs → e1.next = e.next → (Guarded all o (find e1.slots) fun want sv=>sv = .one (.b (!want)) ∨ sv = .tup []) →
    evOpsD Γ Δ k all an l (j + 1) rs (skipD o e1) K = some r → Traced Γ Δ k all an n0 K r (o :: l) j rs (find e.slots) (find e.objs):=fun e1 h1 h2 h3 hg h'=>by
   obtain ⟨x,g1,g2,g5,g6,g7⟩:=noteSkip (Γ:=Γ) (Δ:=Δ) (k:=k) (all:=all) o (h3.trans hn) hg
   rw [h1,h2] at g1
   rw [h1] at g5
   rw [h2] at g6
   exact join x rs _ g1 (fun hd=>by rw [g2] at hd; cases hd) (fun q hq=>hq) g5 g6 g7 h'
  unfold evOpsD at h
  cases hg : o.guard with
  | none =>
   rw [hg] at h
   exact doit e rfl rfl rfl (.inl hg) h
  | some p =>
   obtain ⟨g,want⟩:=p
   rw [hg] at h
   simp only at h
   cases hj : nth all g with
   | none=>simp [hj] at h
   | some p =>
    simp only [hj] at h
    cases hds : p.dst with
    | none=>simp [hds] at h
    | some s =>
     simp only [hds] at h
     cases hs : e.get s with
     | none=>simp [hs] at h
     | some sv =>
      have hs' : find e.slots s = some sv:=hs
      cases sv with
      | agg l=>simp [hs] at h
      | tup l =>
       cases l with
       | cons=>simp [hs] at h
       | nil =>
        simp only [hs] at h
        exact skip e rfl rfl rfl ⟨g,want,p,s,_,hg,hj,hds,hs', .inr rfl⟩ h
      | one y =>
       cases y with
       | b z =>
        simp only [hs] at h
        have hset : find (e.set s (.one (.b z))).slots = find e.slots:=by
         funext t
         simp only [Env.set,y14q]
         by_cases ht : s = t
         ·subst ht; rw [if_pos rfl,hs']
         ·rw [if_neg ht]
        have hgd : ∀ b : Bool,(b = want → z = b → (o.guard = none ∨ Guarded all o (find (e.set s (.one (.b z))).slots) fun want sv=>sv = .one (.b want))):=fun b hb hz=>.inr ⟨g,want,p,s, .one (.b z),hg,hj,hds,by rw [hset]; exact hs',by rw [hz,hb]⟩
        have hgs : z = !want → Guarded all o (find (e.set s (.one (.b z))).slots) fun want sv=>sv = .one (.b (!want)) ∨ sv = .tup []:=fun hz=>⟨g,want,p,s, .one (.b z),hg,hj,hds,by rw [hset]; exact hs', .inl (by rw [hz])⟩
        cases z <;> cases want <;> simp only [br,cond] at h
        ·exact doit _ hset rfl rfl (hgd false rfl rfl) h
        ·exact skip _ hset rfl rfl (hgs rfl) h
        ·exact skip _ hset rfl rfl (hgs rfl) h
        ·exact doit _ hset rfl rfl (hgd true rfl rfl) h
       | _=>simp [hs] at h
end
end Go.Ev
end
