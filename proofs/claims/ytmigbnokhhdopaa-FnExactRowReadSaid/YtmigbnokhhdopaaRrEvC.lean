import Derived.Test.YtmigbnokhhdopaaRrEvB
import Derived.Lib.Strings
import Derived.Great.FillDense
import Derived.Laws.Tables
set_option linter.unusedSimpArgs false
set_option linter.unusedVariables false
set_option linter.unusedSectionVars false
section
namespace Go.Ev
open Go.RowKit (Below)
section
variable {P : Program} {w0 : Base} {G0 : Nat → Prop} {N : Nat} {F : List (Nat × Obj)} {m : St} {e : Env} {tm : Array Value} {Γ : Tab} {ρ : Type}
theorem alloc_sound (hΓ : TabOk P Γ) (hR : Rel w0 G0 N F m e tm) {T : Nat} {ti : TI} (hf : find Γ T = some ti) (hfr : ¬ m.D e.next) :
  ∃ m' v,(Instr.alloc T true (.tuple #[])).run P m.w = .ok v m'.w ∧ Stp m e m' (e.new (.var (zeros ti.ty []))) ∧ Rel w0 G0 N F m' (e.new (.var (zeros ti.ty []))) tm ∧ Lv m' (.loc e.next 0) v:=by
 have hT:=hΓ T ti hf
 obtain ⟨i,z,cs,hi,hs,hb,hz,hc,ha,hr⟩:=hT.info
 obtain ⟨m',hle,hw,hn,hβ,hok⟩:=hR.ok.newVar (zeros ti.ty []) cs T (hr m) hfr
 refine ⟨m', .pointer (some ⟨m.w.heap.size,0,none⟩), ?_, .new hle hn rfl,hR.push hfr hle _ hok,(hn _).2 (.inr rfl), ?_⟩
 ·rw [hw]
  simp [Instr.alloc,zeroValue,typeInfo,hi,hz,newVar,newRow,hc]
 ·rw [hβ]
theorem box_sound (hR : Rel w0 G0 N F m e tm) {T : Nat} {s : SV} {v : Value} (hs : Sv m s v) (ht : s.isTup = false) (hfr : ¬ m.D e.next) :
  ∃ m' u,(Instr.box T v).run P m.w = .ok u m'.w ∧ Stp m e m' (e.new (.var s.cells)) ∧ Rel w0 G0 N F m' (e.new (.var s.cells)) tm ∧ Lv m' (.loc e.next 0) u:=by
 obtain ⟨cs,hc,hr⟩:=hs.cells ht
 obtain ⟨m',hle,hw,hn,hβ,hok⟩:=hR.ok.newVar s.cells cs T hr hfr
 refine ⟨m', .pointer (some ⟨m.w.heap.size,0,none⟩), ?_, .new hle hn rfl,hR.push hfr hle _ hok,(hn _).2 (.inr rfl), ?_⟩
 ·rw [hw]
  simp [Instr.box,newVar,newRow,hc]
 ·rw [hβ]
theorem fieldAt_run (hΓ : TabOk P Γ) {T i d : Nat} {ti : TI} (hf : find Γ T = some ti) (hd : nth ti.offs i = some d) (ha : ti.ty.isAgg = true) (w : World) (b o : Nat) :
  (Instr.fieldAt T (.pointer (some ⟨b,o,none⟩)) i).run P w = .ok (.pointer (some ⟨b,o + d,none⟩)) w:=by
 have hT:=hΓ T ti hf
 obtain ⟨td,hu,hrow,hfs⟩:=hT.under
 rcases hfs ha with ⟨fs,rfl,hok,_⟩ | ⟨_,_,_,_,ho,_⟩
 case inr=>rw [ho] at hd; simp [nth] at hd
 obtain ⟨f,j,hf1,hf2,hf3,hf4,hf5⟩:=fieldsOk_get hok i d hd
 have hf1' : fs[i]? = some f:=by simpa using hf1
 simp [Instr.fieldAt,run_underlying hu,hf1',Instr.sureAddr,fieldPlace,sizeOf,typeInfo,hf3,hf5,Addr.add_mid,hf2]
theorem y65q (hΓ : TabOk P Γ) {T : Nat} {ti : TI} (hf : find Γ T = some ti) {t : Ty} (ht : SlOf ti.ty t) :
  P.underlying T = some (.slice ti.elem) ∧ 0 < t.size ∧ ∃ tj,find Γ ti.elem = some tj ∧ tj.ty = t ∧ ∃ i z cs,P.info? ti.elem = some i ∧ i.size = t.size ∧ i.bytes ≤ 1024 ∧ i.zero = some z ∧ z.cells = List.toArray cs ∧ (∀ m,R2 (Lv m) (zeros t []) cs):=by
 obtain ⟨h1,h2,tj,h3,h4⟩:=(hΓ T ti hf).sl t ht
 have hE:=hΓ _ tj h3
 obtain ⟨i,z,cs,hi,hs,hb,hz,hc,ha,hr⟩:=hE.info
 subst h4
 exact ⟨h1,h2,tj,h3,rfl,i,z,cs,hi,hs,by rw [hb]; exact hE.small,hz,hc,hr⟩
theorem y47q (b o n : Nat) : (⟨b,o,none⟩ : Addr).add n = ⟨b,o + n,none⟩:=Addr.add_mid b o n
theorem addr_eta {a : Addr} (h : a.spot = none) : a = ⟨a.block,a.off,none⟩:=by
 cases a; simp only at h; subst h; rfl
theorem size_era : ∀ t : Ty,t.era.size = t.size
 | .osl _ _=>rfl
 | .pair a b=>by simp [Ty.era,Ty.size,size_era a,size_era b]
 | .int _ | .bool | .str | .sl _ | .unit | .any | .mp _ _ | .omp _ _=>rfl
theorem isSl_of {u t : Ty} (h : isSl u t = true) : SlOf u t:=by
 cases u with
 | sl t'=>exact .inl (by rw [y64q h])
 | osl T t'=>exact .inr ⟨T,by rw [y64q h]⟩
 | _=>simp [isSl] at h
theorem era_sl {u t : Ty} (h : u.era = .sl t) : ∃ t',SlOf u t' ∧ t'.size = t.size:=by
 cases u with
 | sl t' =>
  simp only [Ty.era,Ty.sl.injEq] at h
  exact ⟨t', .inl rfl,by rw [h]⟩
 | osl T t' =>
  simp only [Ty.era,Ty.sl.injEq] at h
  exact ⟨t', .inr ⟨T,rfl⟩,by rw [← h,size_era]⟩
 | _=>simp [Ty.era] at h
theorem indexAt_run (hΓ : TabOk P Γ) {T : Nat} {ti : TI} (hf : find Γ T = some ti) {t : Ty} (ht : SlOf ti.ty t) (w : World) {a : Addr} (hs : a.spot = none) (len cap : Nat) (k : IntKind) (i : Int) (h0 : 0 ≤ i) (h1 : i < len) :
  (Instr.indexAt T (.slice (some a) len cap) (.int k i)).run P w = .ok (.pointer (some ⟨a.block,a.off + i.toNat * t.size,none⟩)) w:=by
 obtain ⟨hu,_,tj,_,_,inf,z,cs,hi,hsz,_⟩:=y65q hΓ hf ht
 rw [addr_eta hs]
 simp [Instr.indexAt,run_underlying hu,asIntOf,h0,h1,sizeOf,typeInfo,hi,hsz,y47q]
theorem indexAddr_sound (hΓ : TabOk P Γ) (hR : Rel w0 G0 N F m e tm) {T : Nat} {ti : TI} (hf : find Γ T = some ti) {x : V} {v : Value} {k : IntKind} {n : Int} {K : SV → Option ρ} {r : ρ}
  (h : y112q ti.ty x n e K = some r) (hx : Lv m x v) : ∃ sv z,(Instr.indexAt T v (.int k n)).run P m.w = .ok z m.w ∧ Sv m sv z ∧ K sv = some r:=by
 have view : ∀ (t : Ty) (xs : List t.den),ti.ty.era = .sl t → Val m.w m.G (.sl t) xs [v] → chk (decide (0 ≤ n)) (chk (decide (n < xs.length)) (K (.one (.el t (xs.getD n.toNat t.zero) 0)))) = some r →
   ∃ sv z,(Instr.indexAt T v (.int k n)).run P m.w = .ok z m.w ∧ Sv m sv z ∧ K sv = some r:=by
  intro t xs ht hv h
  obtain ⟨h0,h⟩:=y25q h
  obtain ⟨h1,h⟩:=y25q h
  obtain ⟨A,len,c,e1,hl,hc,hel⟩:=hv
  simp only [List.cons.injEq,and_true] at e1
  subst e1
  obtain ⟨a,cs',rfl,hs,hg,hcs,hval⟩:=hel n.toNat (by omega)
  obtain ⟨t',ht',hsz⟩:=era_sl ht
  have hrun:=indexAt_run hΓ hf ht' m.w hs len c k n h0 (by omega)
  rw [hsz] at hrun
  exact ⟨.one (.el t (xs.getD n.toNat t.zero) 0),_,hrun,⟨_,_,cs',rfl,hR.ok.gh _ hg,hcs,hval⟩,h⟩
 unfold y112q at h
 cases x with
 | sl t xs =>
  simp only at h
  cases ht : tyEq ti.ty.era (.sl t) with
  | false=>simp [ht] at h
  | true =>
   simp only [ht] at h
   exact view t xs (y64q ht) hx h
 | row id =>
  obtain ⟨hid,rfl,_⟩:=hx
  simp only at h
  cases ho : e.obj id with
  | none=>simp [ho] at h
  | some o =>
   have hob:=(hR.obj id _ ho).2
   cases o with
   | var vs=>simp [ho] at h
   | mix=>simp [ho] at h
   | map=>simp [ho] at h
   | frow t xs =>
    simp only [ho] at h
    cases ht : tyEq ti.ty.era (.sl t) with
    | false=>simp [ht] at h
    | true =>
     simp only [ht] at h
     exact view t xs (y64q ht) hob h
   | row U t q xs =>
    simp only [ho] at h
    cases ht : isSl ti.ty t with
    | false=>simp [ht] at h
    | true =>
     simp only [ht] at h
     obtain ⟨h0,h⟩:=y25q h
     obtain ⟨h1,h⟩:=y25q h
     rcases hob.1 with ⟨_,rfl⟩ | ⟨b,c,cs,e1,hh,_⟩
     ·simp at h1; omega
     ·have hrun:=indexAt_run hΓ hf (isSl_of ht) m.w (a:=⟨b,0,none⟩) rfl xs.length c k n h0 h1
      rw [← e1] at hrun
      refine ⟨.one (.rel id t.size n.toNat 0),_,hrun,⟨hid,b,xs.length,c,e1,by omega,by simp⟩,h⟩
 | rng id sz lo hi =>
  have hx0:=hx
  obtain ⟨hid,hlo,A,len,c,A',c',e1,hn,rfl,hc',hA,_⟩:=hx
  simp only at h
  cases ho : e.obj id with
  | none=>simp [ho] at h
  | some o =>
   have hob:=(hR.obj id _ ho).2
   cases o with
   | var vs=>simp [ho] at h
   | mix=>simp [ho] at h
   | map=>simp [ho] at h
   | frow t xs =>
    simp only [ho] at h
    cases ht : tyEq ti.ty.era (.sl t) && Nat.beq sz t.size with
    | false=>simp [ht] at h
    | true =>
     simp only [ht] at h
     rw [Bool.and_eq_true] at ht
     have hv:=rng_val (Gd:=m.G) hob (Nat.eq_of_beq_eq_true ht.2).symm hx0
     have hl : xs.length = len:=by
      obtain ⟨_,_,_,e2,h2,_⟩:=hob
      rw [e1] at e2
      simp only [List.cons.injEq,Value.slice.injEq,and_true] at e2
      omega
     obtain ⟨h0,h⟩:=y25q h
     obtain ⟨h1,h⟩:=y25q h
     have hlen : ((xs.take hi).drop lo).length = hi - lo:=by simp; omega
     have hget : ((xs.take hi).drop lo).getD n.toNat t.zero = xs.getD (lo + n.toNat) t.zero:=by
      simp only [List.getD_eq_getElem?_getD,List.getElem?_drop,List.getElem?_take]
      rw [if_pos (by omega)]
     refine view t ((xs.take hi).drop lo) (y64q ht.1) hv ?_
     rw [hget,show decide (0 ≤ n) = true from decide_eq_true h0,show decide (n < ((xs.take hi).drop lo).length) = true from decide_eq_true (by omega)]
     exact h
   | row U t q xs =>
    simp only [ho] at h
    cases ht : isSl ti.ty t && Nat.beq sz t.size with
    | false=>simp [ht] at h
    | true =>
     simp only [ht] at h
     rw [Bool.and_eq_true] at ht
     have hsz:=Nat.eq_of_beq_eq_true ht.2
     subst hsz
     obtain ⟨h0,h⟩:=y25q h
     obtain ⟨h1,h⟩:=y25q h
     rcases hob.1 with ⟨e2,rfl⟩ | ⟨b,c2,cs,e2,hh,_⟩
     ·rw [e1] at e2
      simp only [Value.slice.injEq] at e2
      omega
     ·rw [e1] at e2
      simp only [Value.slice.injEq] at e2
      obtain ⟨rfl,rfl,rfl⟩:=e2
      have hA:=hA (by omega)
      simp only [Option.map_some,y47q,Nat.zero_add] at hA
      subst hA
      have hrun:=indexAt_run hΓ hf (isSl_of ht.1) m.w (a:=⟨b,lo * t.size,none⟩) rfl (hi - lo) c' k n h0 (by omega)
      refine ⟨.one (.rel id t.size (lo + n.toNat) 0),_,hrun,⟨hid,b,xs.length,c,e1,by omega, ?_⟩,h⟩
      rw [Nat.add_mul]
      simp
 | _=>simp at h
theorem cast_list_len {α β : Type} (h : α = β) (xs : List α) : (cast (congrArg List h) xs).length = xs.length:=by subst h; rfl
theorem frz_len (t : Ty) (xs : List t.den) : (frz t xs).2.length = xs.length:=by
 unfold frz
 cases t.noOwn with
 | true=>rfl
 | false=>exact cast_list_len (den_era t) xs
theorem len_sound (hΓ : TabOk P Γ) (hR : Rel w0 G0 N F m e tm) {T : Nat} {ti : TI} (hf : find Γ T = some ti) {x : V} {v : Value} {n : Nat} (h : lenOf e ti.ty x = some n) (hx : Lv m x v) (ts : Array TypeId) (hts : ts[0]? = some T) (ty : TypeId) :
  (Builtin.len_ ts ty #[v]).run P m.w = .ok (.int .i64 n) m.w:=by
 have hT:=hΓ T ti hf
 have key : ∀ t,SlOf ti.ty t → ∀ A c,v = .slice A n c → (Builtin.len_ ts ty #[v]).run P m.w = .ok (.int .i64 n) m.w:=by
  intro t ht A c hv
  subst hv
  obtain ⟨h1,_⟩:=hT.sl t ht
  simp [Builtin.len_,hts,run_underlying h1,goInt]
 unfold lenOf at h
 cases hty : ti.ty with
 | str =>
  rw [hty] at h
  cases x with
  | s y =>
   simp only [Option.some.injEq] at h
   obtain ⟨s,rfl,rfl⟩:=hx
   have hu:=hT.str hty
   subst h
   simp only [Builtin.len_,hts,Sem.run_bind,run_underlying hu,Result.andThen_ok,List.getElem?_toArray,List.getElem?_cons_zero,goInt,Sem.run_pure,ba_size]
  | _=>simp at h
 | sl t =>
  rw [hty] at h
  have hsl : SlOf ti.ty t:=.inl hty
  cases x with
  | sl u xs =>
   simp only [Option.some.injEq] at h
   obtain ⟨A,k,c,e1,hl,_⟩:=hx
   simp only [List.cons.injEq,and_true] at e1
   exact key t hsl A c (by rw [e1]; congr 1; omega)
  | nil =>
   simp only [Option.some.injEq] at h
   simp only [Lv] at hx
   exact key t hsl none 0 (by rw [hx,← h])
  | row id =>
   obtain ⟨hid,rfl,A0,n0,c0,e0⟩:=hx
   simp only at h
   cases ho : e.obj id with
   | none=>simp [ho] at h
   | some o =>
    have hob:=(hR.obj id _ ho).2
    cases o with
    | var vs=>simp [ho] at h
    | mix=>simp [ho] at h
    | map=>simp [ho] at h
    | frow u xs =>
     simp only [ho,Option.some.injEq] at h
     obtain ⟨A,k,c,e1,hl,_⟩:=hob
     simp only [List.cons.injEq,and_true] at e1
     exact key t hsl A c (by rw [e1]; congr 1; omega)
    | row U u q xs =>
     simp only [ho,Option.some.injEq] at h
     rcases hob.1 with ⟨e1,rfl⟩ | ⟨b,c,cs,e1,_⟩
     ·exact key t hsl none 0 (by rw [e1,← h]; rfl)
     ·exact key t hsl _ c (by rw [e1,← h])
  | rng id sz lo hi =>
   simp only [Option.some.injEq] at h
   obtain ⟨_,_,A,len,c,A',c',e1,hn,e2,_⟩:=hx
   exact key t hsl A' c' (by rw [e2,h])
  | sub id q sz j off =>
   simp only at h
   cases ho : e.obj id with
   | none=>simp [ho] at h
   | some o =>
    have hob:=(hR.obj id _ ho).2
    cases o with
    | var vs=>simp [ho] at h
    | mix=>simp [ho] at h
    | map=>simp [ho] at h
    | frow u xs=>simp [ho] at h
    | row U u q' xs =>
     simp only [ho] at h
     cases hq : Nat.beq q q' && Nat.beq sz u.size with
     | false=>simp [hq] at h
     | true =>
      simp only [hq] at h
      rw [Bool.and_eq_true] at hq
      have hq1:=Nat.eq_of_beq_eq_true hq.1
      have hq2:=Nat.eq_of_beq_eq_true hq.2
      subst hq1; subst hq2
      cases hg : getS u (xs.getD j u.zero) off with
      | none=>rw [hg] at h; cases h
      | some p =>
       rw [hg] at h
       simp only [Option.some.injEq] at h
       obtain ⟨T',u',xs',bl',g1,_,_,g2,_⟩:=sub_row hob hx hg
       subst g2
       rw [frz_len] at h
       rcases g1 with ⟨e1,rfl⟩ | ⟨b,c,cs,e1,_⟩
       ·exact key t hsl none 0 (by rw [e1,← h]; rfl)
       ·exact key t hsl _ c (by rw [e1,← h])
  | _=>simp at h
 | osl U0 t =>
  rw [hty] at h
  have hsl : SlOf ti.ty t:=.inr ⟨U0,hty⟩
  cases x with
  | sl u xs =>
   simp only [Option.some.injEq] at h
   obtain ⟨A,k,c,e1,hl,_⟩:=hx
   simp only [List.cons.injEq,and_true] at e1
   exact key t hsl A c (by rw [e1]; congr 1; omega)
  | nil =>
   simp only [Option.some.injEq] at h
   simp only [Lv] at hx
   exact key t hsl none 0 (by rw [hx,← h])
  | row id =>
   obtain ⟨hid,rfl,A0,n0,c0,e0⟩:=hx
   simp only at h
   cases ho : e.obj id with
   | none=>simp [ho] at h
   | some o =>
    have hob:=(hR.obj id _ ho).2
    cases o with
    | var vs=>simp [ho] at h
    | mix=>simp [ho] at h
    | map=>simp [ho] at h
    | frow u xs =>
     simp only [ho,Option.some.injEq] at h
     obtain ⟨A,k,c,e1,hl,_⟩:=hob
     simp only [List.cons.injEq,and_true] at e1
     exact key t hsl A c (by rw [e1]; congr 1; omega)
    | row U u q xs =>
     simp only [ho,Option.some.injEq] at h
     rcases hob.1 with ⟨e1,rfl⟩ | ⟨b,c,cs,e1,_⟩
     ·exact key t hsl none 0 (by rw [e1,← h]; rfl)
     ·exact key t hsl _ c (by rw [e1,← h])
  | rng id sz lo hi =>
   simp only [Option.some.injEq] at h
   obtain ⟨_,_,A,len,c,A',c',e1,hn,e2,_⟩:=hx
   exact key t hsl A' c' (by rw [e2,h])
  | sub id q sz j off =>
   simp only at h
   cases ho : e.obj id with
   | none=>simp [ho] at h
   | some o =>
    have hob:=(hR.obj id _ ho).2
    cases o with
    | var vs=>simp [ho] at h
    | mix=>simp [ho] at h
    | map=>simp [ho] at h
    | frow u xs=>simp [ho] at h
    | row U u q' xs =>
     simp only [ho] at h
     cases hq : Nat.beq q q' && Nat.beq sz u.size with
     | false=>simp [hq] at h
     | true =>
      simp only [hq] at h
      rw [Bool.and_eq_true] at hq
      have hq1:=Nat.eq_of_beq_eq_true hq.1
      have hq2:=Nat.eq_of_beq_eq_true hq.2
      subst hq1; subst hq2
      cases hg : getS u (xs.getD j u.zero) off with
      | none=>rw [hg] at h; cases h
      | some p =>
       rw [hg] at h
       simp only [Option.some.injEq] at h
       obtain ⟨T',u',xs',bl',g1,_,_,g2,_⟩:=sub_row hob hx hg
       subst g2
       rw [frz_len] at h
       rcases g1 with ⟨e1,rfl⟩ | ⟨b,c,cs,e1,_⟩
       ·exact key t hsl none 0 (by rw [e1,← h]; rfl)
       ·exact key t hsl _ c (by rw [e1,← h])
  | _=>simp at h
 | _=>rw [hty] at h; simp at h
theorem index_sound (hΓ : TabOk P Γ) {T : Nat} {ti : TI} (hf : find Γ T = some ti) (ht : ti.ty = .str) {s : ByteArray} {k : IntKind} {n : Int} (h0 : 0 ≤ n) (h1 : n < s.data.toList.length) (w : World) :
  (Instr.index T (.string s) (.int k n)).run P w = .ok (.int .u8 ((s.data.toList.getD n.toNat 0).toNat : Nat)) w:=by
 have hu:=(hΓ T ti hf).str ht
 have hlt : n.toNat < s.size:=by rw [ba_size]; omega
 have hlt' : n.toNat < s.data.toList.length:=by omega
 have hg : s[n.toNat]? = some (s.data.toList.getD n.toNat 0):=by
  rw [ByteArray.getElem?_lt' s _ hlt,List.getD_eq_getElem?_getD,List.getElem?_eq_getElem hlt']
  rfl
 simp only [Instr.index,asIntOf,Sem.run_bind,Sem.run_pure,Result.andThen_ok,run_underlying hu,h0,if_true,hg]
end
end Go.Ev
end
section
namespace Go.Ev
open Go.RowKit (Below)
section
variable {P : Program} {w0 : Base} {G0 : Nat → Prop} {N : Nat} {F : List (Nat × Obj)} {m : St} {e : Env} {a : Act} {Γ : Tab} {ρ : Type}
theorem bound_val (hR : Rel w0 G0 N F m e a.tmps) {o : Option Operand} {n : Option Int} (h : bound e o = some n) : match n with
  | none=>o = none
  | some i=>∃ x k,o = some x ∧ a.eval x = .int k i:=by
 unfold bound at h
 cases o with
 | none=>simp only [Option.some.injEq] at h; subst h; rfl
 | some x =>
  simp only at h
  cases hx : e.one x with
  | none=>simp [hx] at h
  | some v =>
   have hl:=y105q hR hx
   cases v with
   | i k i=>simp only [hx,Option.some.injEq] at h; subst h; exact ⟨x,k,rfl,hl⟩
   | _=>simp [hx] at h
theorem val_piece {w : World} {G : Nat → Prop} {t : Ty} {xs : List t.den} {A : Option Addr} {n c : Nat} (h : Val w G (.sl t) xs [.slice A n c]) {l h' mx : Nat} (h1 : l ≤ h') (h2 : h' ≤ n) (hm : mx = c) :
  Val w G (.sl t) ((xs.take h').drop l) [sliced A l h' mx t.size]:=by
 subst hm
 obtain ⟨A',n',c',e1,hl,hc,hel⟩:=h
 simp only [List.cons.injEq,Value.slice.injEq,and_true] at e1
 obtain ⟨rfl,rfl,rfl⟩:=e1
 refine ⟨_,_,_,rfl,by simp; omega,by omega,fun j hj=>?_⟩
 simp only [List.length_drop,List.length_take] at hj
 obtain ⟨a,cs',rfl,hs,hg,hcs,hv⟩:=hel (l + j) (by omega)
 have hne : ¬ mx = l:=by omega
 refine ⟨a.add (l * t.size),cs',by simp [hne], ?_, ?_, ?_, ?_⟩
 ·rw [addr_eta hs,y47q]
 ·rw [addr_eta hs,y47q]; exact hg
 ·rw [addr_eta hs,y47q]
  rw [Nat.add_mul] at hcs
  simpa [Nat.add_assoc] using hcs
 ·have : ((xs.take h').drop l).getD j t.zero = xs.getD (l + j) t.zero:=by
   simp only [List.getD_eq_getElem?_getD,List.getElem?_drop,List.getElem?_take]
   rw [if_pos (by omega)]
  rw [this]; exact hv
theorem sliceN_sound (hΓ : TabOk P Γ) {T : Nat} {ti : TI} (hf : find Γ T = some ti) {t : Ty} (ht : ti.ty.era = .sl t) {xs : List t.den} {v : Value} (hv : Val m.w m.G (.sl t) xs [v])
  (hR : Rel w0 G0 N F m e a.tmps) {lo hi : Option Operand} {l h : Option Int} (hl : bound e lo = some l) (hh : bound e hi = some h) {K : SV → Option ρ} {r : ρ}
  (hk : y119q t xs l h K = some r) : ∃ sv z,(Instr.sliceAt T v (lo.map a.eval) (hi.map a.eval) none).run P m.w = .ok z m.w ∧ Sv m sv z ∧ K sv = some r:=by
 obtain ⟨t',ht',hsz'⟩:=era_sl ht
 obtain ⟨hu,_,tj,_,_,inf,z,cs,hi',hsz,_⟩:=y65q hΓ hf ht'
 rw [hsz'] at hsz
 obtain ⟨A,n,c,e1,hlen,hc,hel⟩:=id hv
 simp only [List.cons.injEq,and_true] at e1
 subst e1
 have hel' : P.elem T = ti.elem:=by simp [Program.elem,hu]
 have hu' : P.underlying T = some (.slice (P.elem T)):=by rw [hel']; exact hu
 have hs : ∀ w,(sizeOf (P.elem T)).run P w = .ok t.size w:=by
  intro w
  rw [hel']
  simp [sizeOf,typeInfo,hi',hsz]
 have b1:=bound_val hR hl
 have b2:=bound_val hR hh
 rw [run_sliceAt_slice m.w T _ _ _ _ hu']
 cases l with
 | none =>
  simp only at b1
  subst b1
  cases h with
  | none =>
   simp only at b2
   subst b2
   simp only [y119q] at hk
   refine ⟨.one (.sl t xs),sliced A 0 n c t.size, ?_, ?_,hk⟩
   ·simp only [Option.map_none]
    rw [run_slice_all m.w T A n c hu',hs]
    rfl
   ·have:=val_piece (l:=0) (h':=n) hv (Nat.zero_le _) (Nat.le_refl _) rfl
    simp only [List.drop_zero] at this
    rw [List.take_of_length_le (by omega)] at this
    exact this
  | some h =>
   obtain ⟨x,k,rfl,hx⟩:=b2
   simp only [y119q] at hk
   obtain ⟨k1,hk⟩:=y25q hk
   obtain ⟨k2,hk⟩:=y25q hk
   refine ⟨.one (.sl t (xs.take h.toNat)),sliced A 0 h.toNat c t.size, ?_, ?_,hk⟩
   ·simp only [Option.map_none,Option.map_some,hx]
    rw [run_slice_h m.w T A n c hu' k h k1 (by omega),hs]
    rfl
   ·have:=val_piece (l:=0) (h':=h.toNat) hv (Nat.zero_le _) (by omega) rfl
    simp only [List.drop_zero] at this
    exact this
 | some l =>
  obtain ⟨x,k,rfl,hx⟩:=b1
  cases h with
  | none =>
   simp only at b2
   subst b2
   simp only [y119q] at hk
   obtain ⟨k1,hk⟩:=y25q hk
   obtain ⟨k2,hk⟩:=y25q hk
   refine ⟨.one (.sl t (xs.drop l.toNat)),sliced A l.toNat n c t.size, ?_, ?_,hk⟩
   ·simp only [Option.map_none,Option.map_some,hx]
    rw [run_slice_l m.w T A n c hu' k l k1 (by omega),hs]
    rfl
   ·have:=val_piece (l:=l.toNat) (h':=n) hv (by omega) (Nat.le_refl _) rfl
    rw [List.take_of_length_le (by omega)] at this
    exact this
  | some h =>
   obtain ⟨y,k',rfl,hy⟩:=b2
   simp only [y119q] at hk
   obtain ⟨k1,hk⟩:=y25q hk
   obtain ⟨k2,hk⟩:=y25q hk
   obtain ⟨k3,hk⟩:=y25q hk
   refine ⟨.one (.sl t ((xs.take h.toNat).drop l.toNat)),sliced A l.toNat h.toNat c t.size, ?_, ?_,hk⟩
   ·simp only [Option.map_some,hx,hy]
    rw [run_slice_lh m.w T A n c hu' k k' l h k1 k2 (by omega),hs]
    rfl
   ·exact val_piece (l:=l.toNat) (h':=h.toNat) hv (by omega) (by omega) rfl
theorem piece_lv {id T lo len l h c' : Nat} {t : Ty} {xs : List t.den} {A A' : Option Addr} {n c : Nat} (hid : m.D id) (hrow : RowAt m.w m.G T t xs (m.ν id)) (hν : m.ν id = .slice A n c) (hn : lo + len ≤ n) (hc' : len ≤ c')
  (hA : 0 < len → A' = A.map (·.add (lo * t.size))) (h0 : lo = 0 → A' = A ∧ c' = c) (h1 : l ≤ h) (h2 : h ≤ len) : Lv m (.rng id t.size (lo + l) (lo + h)) (sliced A' l h c' t.size):=by
 refine ⟨hid,by omega,A,n,c,_,_,hν,by omega,by unfold sliced; congr 1; omega,by omega,fun hlt=>?_,fun hz=>?_⟩
 ·rw [if_neg (by omega),hA (by omega)]
  rcases hrow with ⟨e,rfl⟩ | ⟨b,c2,cs,e,_⟩
  ·rw [hν] at e
   simp only [Value.slice.injEq] at e
   omega
  ·rw [hν] at e
   simp only [Value.slice.injEq] at e
   obtain ⟨rfl,_⟩:=e
   simp only [Option.map_some,y47q]
   rw [Nat.add_mul,Nat.add_assoc]
 ·have hl : l = 0:=by omega
  have hz : lo = 0:=by omega
  subst hl; subst hz
  obtain ⟨rfl,rfl⟩:=h0 rfl
  refine ⟨?_,by omega⟩
  split
  ·rfl
  ·rcases hrow with ⟨e,_⟩ | ⟨b,c2,cs,e,_⟩
   ·rw [hν] at e
    simp only [Value.slice.injEq] at e
    rw [e.1]; rfl
   ·rw [hν] at e
    simp only [Value.slice.injEq] at e
    rw [e.1]
    simp only [Option.map_some,y47q,Nat.zero_mul,Nat.add_zero]
theorem sliceR_sound (hΓ : TabOk P Γ) {T : Nat} {ti : TI} (hf : find Γ T = some ti) {t : Ty} (ht : isSl ti.ty t = true) {id U lo len c' : Nat} {xs : List t.den} {A A' : Option Addr} {n c : Nat} (hid : m.D id) (hrow : RowAt m.w m.G U t xs (m.ν id)) (hν : m.ν id = .slice A n c)
  (hn : lo + len ≤ n) (hc' : len ≤ c') (hA : 0 < len → A' = A.map (·.add (lo * t.size))) (h0 : lo = 0 → A' = A ∧ c' = c)
  (hR : Rel w0 G0 N F m e a.tmps) {lop hop : Option Operand} {l h : Option Int} (hl : bound e lop = some l) (hh : bound e hop = some h) {K : SV → Option ρ} {r : ρ}
  (hk : y142q id t.size lo len l h K = some r) : ∃ sv z,(Instr.sliceAt T (.slice A' len c') (lop.map a.eval) (hop.map a.eval) none).run P m.w = .ok z m.w ∧ Sv m sv z ∧ K sv = some r:=by
 obtain ⟨hu,_,tj,_,_,inf,z,cs,hi',hsz,_⟩:=y65q hΓ hf (isSl_of ht)
 have hel' : P.elem T = ti.elem:=by simp [Program.elem,hu]
 have hu' : P.underlying T = some (.slice (P.elem T)):=by rw [hel']; exact hu
 have hs : ∀ w,(sizeOf (P.elem T)).run P w = .ok t.size w:=by
  intro w
  rw [hel']
  simp [sizeOf,typeInfo,hi',hsz]
 have pc:=fun {l h : Nat}=>piece_lv (m:=m) (T:=U) (l:=l) (h:=h) hid hrow hν hn hc' hA h0
 have b1:=bound_val hR hl
 have b2:=bound_val hR hh
 rw [run_sliceAt_slice m.w T _ _ _ _ hu']
 cases l with
 | none =>
  simp only at b1
  subst b1
  cases h with
  | none =>
   simp only at b2
   subst b2
   simp only [y142q] at hk
   refine ⟨.one (.rng id t.size lo (lo + len)),sliced A' 0 len c' t.size, ?_,pc (l:=0) (h:=len) (Nat.zero_le _) (Nat.le_refl _),hk⟩
   simp only [Option.map_none]
   rw [run_slice_all m.w T A' len c' hu',hs]
   rfl
  | some h =>
   obtain ⟨x,k,rfl,hx⟩:=b2
   simp only [y142q] at hk
   obtain ⟨k1,hk⟩:=y25q hk
   obtain ⟨k2,hk⟩:=y25q hk
   refine ⟨.one (.rng id t.size lo (lo + h.toNat)),sliced A' 0 h.toNat c' t.size, ?_,pc (l:=0) (h:=h.toNat) (Nat.zero_le _) (by omega),hk⟩
   simp only [Option.map_none,Option.map_some,hx]
   rw [run_slice_h m.w T A' len c' hu' k h k1 (by omega),hs]
   rfl
 | some l =>
  obtain ⟨x,k,rfl,hx⟩:=b1
  cases h with
  | none =>
   simp only at b2
   subst b2
   simp only [y142q] at hk
   obtain ⟨k1,hk⟩:=y25q hk
   obtain ⟨k2,hk⟩:=y25q hk
   refine ⟨.one (.rng id t.size (lo + l.toNat) (lo + len)),sliced A' l.toNat len c' t.size, ?_,pc (l:=l.toNat) (h:=len) (by omega) (Nat.le_refl _),hk⟩
   simp only [Option.map_none,Option.map_some,hx]
   rw [run_slice_l m.w T A' len c' hu' k l k1 (by omega),hs]
   rfl
  | some h =>
   obtain ⟨y,k',rfl,hy⟩:=b2
   simp only [y142q] at hk
   obtain ⟨k1,hk⟩:=y25q hk
   obtain ⟨k2,hk⟩:=y25q hk
   obtain ⟨k3,hk⟩:=y25q hk
   refine ⟨.one (.rng id t.size (lo + l.toNat) (lo + h.toNat)),sliced A' l.toNat h.toNat c' t.size, ?_,pc (l:=l.toNat) (h:=h.toNat) (by omega) (by omega),hk⟩
   simp only [Option.map_some,hx,hy]
   rw [run_slice_lh m.w T A' len c' hu' k k' l h k1 k2 (by omega),hs]
   rfl
theorem extract_list (s : ByteArray) (l h : Nat) : (s.extract l h).data.toList = (s.data.toList.take h).drop l:=by
 rw [Lib.extract_data,List.drop_take]
theorem sliceS_sound (hΓ : TabOk P Γ) {T : Nat} {ti : TI} (hf : find Γ T = some ti) (ht : ti.ty = .str) {s : ByteArray}
  (hR : Rel w0 G0 N F m e a.tmps) {lo hi : Option Operand} {l h : Option Int} (hl : bound e lo = some l) (hh : bound e hi = some h) {K : SV → Option ρ} {r : ρ}
  (hk : evSliceS s.data.toList l h K = some r) : ∃ sv z,(Instr.sliceAt T (.string s) (lo.map a.eval) (hi.map a.eval) none).run P m.w = .ok z m.w ∧ Sv m sv z ∧ K sv = some r:=by
 have hu:=(hΓ T ti hf).str ht
 have b1:=bound_val hR hl
 have b2:=bound_val hR hh
 rw [run_sliceAt_string m.w T _ _ _ _ hu]
 have hsz:=ba_size s
 cases l with
 | none =>
  simp only at b1
  subst b1
  cases h with
  | none =>
   simp only at b2
   subst b2
   simp only [evSliceS] at hk
   refine ⟨.one (.s s.data.toList),_,run_slice_string_all m.w T s hu,⟨_,rfl, ?_⟩,hk⟩
   rw [extract_list,hsz,List.take_of_length_le (Nat.le_refl _)]
   rfl
  | some h =>
   obtain ⟨x,k,rfl,hx⟩:=b2
   simp only [evSliceS] at hk
   obtain ⟨k1,hk⟩:=y25q hk
   obtain ⟨k2,hk⟩:=y25q hk
   refine ⟨.one (.s (s.data.toList.take h.toNat)), .string (s.extract 0 h.toNat), ?_,⟨_,rfl, ?_⟩,hk⟩
   ·simp only [Option.map_none,Option.map_some,hx]
    exact run_slice_string_h m.w T s hu k h k1 (by omega)
   ·rw [extract_list]; rfl
 | some l =>
  obtain ⟨x,k,rfl,hx⟩:=b1
  cases h with
  | none =>
   simp only at b2
   subst b2
   simp only [evSliceS] at hk
   obtain ⟨k1,hk⟩:=y25q hk
   obtain ⟨k2,hk⟩:=y25q hk
   refine ⟨.one (.s (s.data.toList.drop l.toNat)), .string (s.extract l.toNat s.size), ?_,⟨_,rfl, ?_⟩,hk⟩
   ·simp only [Option.map_none,Option.map_some,hx]
    exact run_slice_string_l m.w T s hu k l k1 (by omega)
   ·rw [extract_list,hsz,List.take_of_length_le (Nat.le_refl _)]
  | some h =>
   obtain ⟨y,k',rfl,hy⟩:=b2
   simp only [evSliceS] at hk
   obtain ⟨k1,hk⟩:=y25q hk
   obtain ⟨k2,hk⟩:=y25q hk
   obtain ⟨k3,hk⟩:=y25q hk
   refine ⟨.one (.s ((s.data.toList.take h.toNat).drop l.toNat)), .string (s.extract l.toNat h.toNat), ?_,⟨_,rfl, ?_⟩,hk⟩
   ·simp only [Option.map_some,hx,hy]
    have k4 : h ≤ s.size:=by omega
    have k5 : 0 ≤ h:=by omega
    have eh : (h.toNat : Int) = h:=Int.toNat_of_nonneg k5
    simp [Instr.slice,run_underlying hu,Instr.sliceBounds,run_sliceBound,k1,k2,k4,k5,eh]
   ·rw [extract_list]
end
end Go.Ev
end
section
namespace Go.Ev
open Go.RowKit (Below)
theorem cellsAt_append {w : World} {b o : Nat} {l l' : List Value} (h : CellsAt w b o l) (h' : CellsAt w b (o + l.length) l') : CellsAt w b o (l ++ l'):=by
 intro j v hv
 by_cases hj : j < l.length
 ·rw [List.getElem?_append_left hj] at hv
  exact h j v hv
 ·rw [List.getElem?_append_right (by omega)] at hv
  have:=h' (j - l.length) v hv
  have e : o + l.length + (j - l.length) = o + j:=by omega
  rwa [e] at this
theorem flat_of {w : World} {sz : Nat} (f : Nat → List Value → Prop) (b o : Nat) : ∀ n,(∀ j,j < n → ∃ cs',CellsAt w b (o + j * sz) cs' ∧ f j cs' ∧ cs'.length = sz ∧ ∀ u ∈ cs',u.oneCell' = true) →
  ∃ flat : List Value,flat.length = n * sz ∧ CellsAt w b o flat ∧ (∀ j,j < n → f j ((flat.drop (j * sz)).take sz)) ∧ ∀ u ∈ flat,u.oneCell' = true
 | 0,_=>⟨[],by simp,fun j v h=>by simp at h,fun j h=>absurd h (by omega),fun u h=>by simp at h⟩
 | n + 1,h=>by
  obtain ⟨fl,hl,hc,hf,h1⟩:=flat_of f b o n fun j hj=>h j (by omega)
  obtain ⟨cs',c1,c2,c3,c4⟩:=h n (by omega)
  refine ⟨fl ++ cs',by rw [List.length_append,hl,c3,Nat.add_mul,Nat.one_mul],cellsAt_append hc (by rw [hl]; exact c1),fun j hj=>?_,fun u hu=>?_⟩
  ·by_cases hjn : j < n
   ·have hle : (j + 1) * sz ≤ n * sz:=Nat.mul_le_mul_right _ hjn
    rw [Nat.add_mul,Nat.one_mul] at hle
    rw [List.drop_append_of_le_length (by omega),List.take_append_of_le_length (by rw [List.length_drop]; omega)]
    exact hf j hjn
   ·have hj' : j = n:=by omega
    subst hj'
    have e : (fl ++ cs').drop (j * sz) = cs':=by rw [← hl,List.drop_left]
    rw [e,List.take_of_length_le (by omega)]
    exact c2
  ·rcases List.mem_append.1 hu with hu | hu
   ·exact h1 u hu
   ·exact c4 u hu
theorem Val.oneCells {m : St} {t : Ty} {x : t.den} {cs : List Value} (h : Val m.w m.G t x cs) : ∀ u ∈ cs,u.oneCell' = true:=R2.oneCells h.enc
def Src (m : St) (t : Ty) (ys : List t.den) (x : Value) : Prop :=
 ∃ A c,∃ news : List Value,x = .slice A ys.length c ∧ news.length = ys.length * t.size ∧
  (0 < ys.length → ∃ ad : Addr,A = some ad ∧ ∀ j u,news[j]? = some u → m.w.cell? (ad.add j) = some u) ∧
  (∀ j,j < ys.length → Val m.w m.G t (ys.getD j t.zero) ((news.drop (j * t.size)).take t.size)) ∧ ∀ u ∈ news,u.oneCell' = true
theorem Src.of_val {m : St} {t : Ty} {ys : List t.den} {x : Value} (h : Val m.w m.G (.sl t) ys [x]) : Src m t ys x:=by
 obtain ⟨A,n,c,e,hl,hc,hel⟩:=h
 simp only [List.cons.injEq,and_true] at e
 subst e
 by_cases h0 : 0 < ys.length
 ·obtain ⟨a,_,ha,hs,_⟩:=hel 0 h0
  obtain ⟨flat,h1,h2,h3,h4⟩:=flat_of (w:=m.w) (sz:=t.size) (fun j cs'=>Val m.w m.G t (ys.getD j t.zero) cs') a.block a.off ys.length fun j hj=>by
   obtain ⟨a',cs',ha',hs',_,hc',hv'⟩:=hel j hj
   rw [ha] at ha'
   obtain rfl:=Option.some.inj ha'
   exact ⟨cs',hc',hv',hv'.length,Val.oneCells (m:=m) hv'⟩
  refine ⟨A,c,flat,by rw [hl],h1,fun _=>⟨a,ha,fun j u hu=>?_⟩,h3,h4⟩
  rw [addr_eta hs,y47q]
  exact h2 j u hu
 ·have : ys = []:=List.eq_nil_of_length_eq_zero (by omega)
  subst this
  exact ⟨A,c,[],by rw [← hl],by simp,fun h=>absurd h (by simp),fun j h=>absurd h (by simp),fun u h=>by simp at h⟩
theorem Src.of_row {m : St} {T : Nat} {t : Ty} {ys : List t.den} {x : Value} (h : RowAt m.w m.G T t ys x) : Src m t ys x:=by
 rcases h with ⟨rfl,rfl⟩ | ⟨b,c,cs,e,hh,h1,h2,h3,hx⟩
 ·exact ⟨none,0,[],rfl,by simp,fun h=>absurd h (by simp),fun j h=>absurd h (by simp),fun u h=>by simp at h⟩
 ·obtain ⟨flat,g1,g2,g3,g4⟩:=flat_of (w:=m.w) (sz:=t.size) (fun j cs'=>Val m.w m.G t (ys.getD j t.zero) cs') b 0 ys.length fun j hj=>by
   obtain ⟨cs',hc',hv'⟩:=hx j hj
   exact ⟨cs',by simpa using hc',hv',hv'.length,Val.oneCells (m:=m) hv'⟩
  refine ⟨_,c,flat,e,g1,fun _=>⟨⟨b,0,none⟩,rfl,fun j u hu=>?_⟩,g3,g4⟩
  rw [y47q]
  exact g2 j u hu
def SrcI (m : St) (t : Ty) (ys : List t.den) (x : Value) (b2 : List (List Nat)) : Prop :=
 ∃ A c,∃ news : List Value,x = .slice A ys.length c ∧ news.length = ys.length * t.size ∧
  (0 < ys.length → ∃ ad : Addr,A = some ad ∧ ∀ j u,news[j]? = some u → m.w.cell? (ad.add j) = some u) ∧
  (∀ j,j < ys.length → Val m.w m.G t (ys.getD j t.zero) ((news.drop (j * t.size)).take t.size)) ∧ (∀ u ∈ news,u.oneCell' = true) ∧
  ∀ j,j < ys.length → Inn m.w m.G t (ys.getD j t.zero) ((news.drop (j * t.size)).take t.size) (b2.getD j [])
theorem getD_rep {n j : Nat} : (List.replicate n ([] : List Nat)).getD j [] = []:=by
 simp only [List.getD_eq_getElem?_getD,List.getElem?_replicate]
 split <;> rfl
theorem y52q : ∀ n : Nat,(List.replicate n ([] : List Nat)).flatten = []
 | 0=>rfl
 | n + 1=>by simp [List.replicate_succ,y52q n]
theorem Src.inn {m : St} {t : Ty} {ys : List t.den} {x : Value} (h : Src m t ys x) (ht : t.noOwn = true) : SrcI m t ys x (List.replicate ys.length []):=by
 obtain ⟨A,c,news,h1,h2,h3,h4,h5⟩:=h
 exact ⟨A,c,news,h1,h2,h3,h4,h5,fun j hj=>by rw [getD_rep]; exact Inn.nil ht (h4 j hj).length⟩
theorem SrcI.of_row {m : St} {T b0 : Nat} {t : Ty} {ys : List t.den} {x : Value} {bls : List (List Nat)} (h : RowAt m.w m.G T t ys x)
  (hi : ∀ b,x.ownBlock = some b → ∀ j,j < ys.length → ∃ cs,CellsAt m.w b (j * t.size) cs ∧ cs.length = t.size ∧ Inn m.w m.G t (ys.getD j t.zero) cs (bls.getD j [])) : SrcI m t ys x bls:=by
 rcases h with ⟨rfl,rfl⟩ | ⟨b,c,cs,e,hh,h1,h2,h3,hx⟩
 ·exact ⟨none,0,[],rfl,by simp,fun h=>absurd h (by simp),fun j h=>absurd h (by simp),fun u h=>by simp at h,fun j h=>absurd h (by simp)⟩
 ·obtain ⟨flat,g1,g2,g3,g4⟩:=flat_of (w:=m.w) (sz:=t.size) (fun j cs'=>Val m.w m.G t (ys.getD j t.zero) cs' ∧ Inn m.w m.G t (ys.getD j t.zero) cs' (bls.getD j [])) b 0 ys.length fun j hj=>by
   obtain ⟨cs',hc',hv'⟩:=hx j hj
   obtain ⟨cs2,k1,k2,k3⟩:=hi b (by rw [e]; rfl) j hj
   have:=y23q hc' k1 (by rw [hv'.length,k2])
   subst this
   exact ⟨cs',by simpa using hc',⟨hv',k3⟩,hv'.length,Val.oneCells (m:=m) hv'⟩
  refine ⟨_,c,flat,e,g1,fun _=>⟨⟨b,0,none⟩,rfl,fun j u hu=>?_⟩,fun j hj=>(g3 j hj).1,g4,fun j hj=>(g3 j hj).2⟩
  rw [y47q]
  exact g2 j u hu
theorem RowAt.mk {w : World} {G : Nat → Prop} {T b c : Nat} {t : Ty} {zs : List t.den} {cur flat : List Value} (hh : w.heap[b]? = some (.cells cur.toArray T (0,0))) (hc : zs.length ≤ c) (hm : c ≤ maxLen) (hl : cur.length = c * t.size)
  (hf : cur.take (zs.length * t.size) = flat) (hv : ∀ j,j < zs.length → Val w G t (zs.getD j t.zero) ((flat.drop (j * t.size)).take t.size)) : RowAt w G T t zs (.slice (some ⟨b,0,none⟩) zs.length c):=by
 refine .inr ⟨b,c,cur,rfl,hh,hc,hm,hl,fun j hj=>⟨_, ?_,hv j hj⟩⟩
 rw [y37q hh]
 intro q v hq
 rw [← hf,List.getElem?_take] at hq
 split at hq
 ·rw [List.getElem?_drop,List.getElem?_take] at hq
  split at hq
  ·exact hq
  ·simp at hq
 ·simp at hq
theorem y127q {w : World} {G : Nat → Prop} {t : Ty} {xs ys : List t.den} {f g : List Value} (hf : f.length = xs.length * t.size) (hg : g.length = ys.length * t.size)
  (h1 : ∀ j,j < xs.length → Val w G t (xs.getD j t.zero) ((f.drop (j * t.size)).take t.size)) (h2 : ∀ j,j < ys.length → Val w G t (ys.getD j t.zero) ((g.drop (j * t.size)).take t.size)) :
  ∀ j,j < (xs ++ ys).length → Val w G t ((xs ++ ys).getD j t.zero) (((f ++ g).drop (j * t.size)).take t.size):=by
 intro j hj
 rw [List.length_append] at hj
 by_cases h : j < xs.length
 ·have hle : (j + 1) * t.size ≤ xs.length * t.size:=Nat.mul_le_mul_right _ h
  rw [Nat.add_mul,Nat.one_mul] at hle
  rw [List.drop_append_of_le_length (by omega),List.take_append_of_le_length (by rw [List.length_drop]; omega)]
  have e : (xs ++ ys).getD j t.zero = xs.getD j t.zero:=by simp [List.getD_eq_getElem?_getD,List.getElem?_append_left h]
  rw [e]
  exact h1 j h
 ·have e1 : j * t.size = f.length + (j - xs.length) * t.size:=by
   rw [hf,← Nat.add_mul]; congr 1; omega
  rw [e1,← List.drop_drop,List.drop_left]
  have e : (xs ++ ys).getD j t.zero = ys.getD (j - xs.length) t.zero:=by simp [List.getD_eq_getElem?_getD,List.getElem?_append_right (show xs.length ≤ j by omega)]
  rw [e]
  exact h2 _ (by omega)
theorem RowIn.mk {w : World} {G : Nat → Prop} {T b n c : Nat} {t : Ty} {zs : List t.den} {cur flat : List Value} {bls : List (List Nat)} (hh : w.heap[b]? = some (.cells cur.toArray T (0,0))) (hf : cur.take (zs.length * t.size) = flat) (hl : flat.length = zs.length * t.size) (hb : bls.length = zs.length)
  (hv : ∀ j,j < zs.length → Inn w G t (zs.getD j t.zero) ((flat.drop (j * t.size)).take t.size) (bls.getD j [])) : RowIn w G t zs (.slice (some ⟨b,0,none⟩) n c) (b :: bls.flatten):=by
 refine .inr ⟨b,rfl,bls,rfl,hb,fun j hj=>⟨_, ?_, ?_,hv j hj⟩⟩
 ·rw [y37q hh]
  intro q v hq
  rw [← hf,List.getElem?_take] at hq
  split at hq
  ·rw [List.getElem?_drop,List.getElem?_take] at hq
   split at hq
   ·exact hq
   ·simp at hq
  ·simp at hq
 ·have hle : (j + 1) * t.size ≤ zs.length * t.size:=Nat.mul_le_mul_right _ hj
  rw [Nat.add_mul,Nat.one_mul] at hle
  rw [List.length_take,List.length_drop]
  omega
theorem inns_append {w : World} {G : Nat → Prop} {t : Ty} {xs ys : List t.den} {f g : List Value} {b1 b2 : List (List Nat)} (hf : f.length = xs.length * t.size) (hg : g.length = ys.length * t.size) (hb1 : b1.length = xs.length)
  (h1 : ∀ j,j < xs.length → Inn w G t (xs.getD j t.zero) ((f.drop (j * t.size)).take t.size) (b1.getD j [])) (h2 : ∀ j,j < ys.length → Inn w G t (ys.getD j t.zero) ((g.drop (j * t.size)).take t.size) (b2.getD j [])) :
  ∀ j,j < (xs ++ ys).length → Inn w G t ((xs ++ ys).getD j t.zero) (((f ++ g).drop (j * t.size)).take t.size) ((b1 ++ b2).getD j []):=by
 intro j hj
 rw [List.length_append] at hj
 by_cases h : j < xs.length
 ·have hle : (j + 1) * t.size ≤ xs.length * t.size:=Nat.mul_le_mul_right _ h
  rw [Nat.add_mul,Nat.one_mul] at hle
  rw [List.drop_append_of_le_length (by omega),List.take_append_of_le_length (by rw [List.length_drop]; omega)]
  have e : (xs ++ ys).getD j t.zero = xs.getD j t.zero:=by simp [List.getD_eq_getElem?_getD,List.getElem?_append_left h]
  have e2 : (b1 ++ b2).getD j [] = b1.getD j []:=by simp [List.getD_eq_getElem?_getD,List.getElem?_append_left (show j < b1.length by omega)]
  rw [e,e2]
  exact h1 j h
 ·have e1 : j * t.size = f.length + (j - xs.length) * t.size:=by
   rw [hf,← Nat.add_mul]; congr 1; omega
  rw [e1,← List.drop_drop,List.drop_left]
  have e : (xs ++ ys).getD j t.zero = ys.getD (j - xs.length) t.zero:=by simp [List.getD_eq_getElem?_getD,List.getElem?_append_right (show xs.length ≤ j by omega)]
  have e2 : (b1 ++ b2).getD j [] = b2.getD (j - xs.length) []:=by simp [List.getD_eq_getElem?_getD,List.getElem?_append_right (show b1.length ≤ j by omega),hb1]
  rw [e,e2]
  exact h2 _ (by omega)
section
variable {P : Program} {w0 : Base} {G0 : Nat → Prop} {N : Nat} {F : List (Nat × Obj)} {m : St} {e : Env} {tm : Array Value} {Γ : Tab} {ρ : Type} {os : List (Nat × Obj)}
theorem y66q {t ty el : TypeId} {i : TypeInfo} (ht : P.underlying t = some (.slice el)) (hi : P.info? el = some i) (w : World) (b : Option Addr) (n c : Nat) (A : Option Addr) (c' : Nat) (h : n ≤ c) :
  (Builtin.append_ #[t,t] ty #[.slice b n c, .slice A 0 c']).run P w = .ok (.slice b n c) w:=by
 cases A <;> cases b <;> simp [Builtin.append_,run_underlying ht,sizeOf,typeInfo,hi,Builtin.lenOf,h,Builtin.firstCells,loadCells,loadCellsFrom,storeCells]
theorem y128q (hΓ : TabOk P Γ) (hok : ObjsOk w0 G0 m os) {T : Nat} {ti : TI} (hf : find Γ T = some ti) {t : Ty} (ht : SlOf ti.ty t) {xs ys : List t.den} {v x : Value} {ty : TypeId} {b1 b2 : List (List Nat)}
  (hrow : RowAt m.w m.G ti.elem t xs v) (hin : ∀ b,v.ownBlock = some b → ∀ j,j < xs.length → ∃ cs,CellsAt m.w b (j * t.size) cs ∧ cs.length = t.size ∧ Inn m.w m.G t (xs.getD j t.zero) cs (b1.getD j []))
  (hx : SrcI m t ys x b2) (hl1 : b1.length = xs.length) (hl2 : b2.length = ys.length) (hcap : xs.length + ys.length ≤ capN)
  (hv : ∀ a n c,v = .slice (some a) n c → Mine w0 a.block ∧ a.block < m.w.heap.size ∧ ¬ m.G a.block ∧ ¬ m.H a.block ∧ ∀ i,¬ blk os m i a.block)
  (hnd : (b1 ++ b2).flatten.Nodup) (hbl : ∀ b ∈ (b1 ++ b2).flatten,Mine w0 b ∧ b < m.w.heap.size ∧ ¬ m.G b ∧ ¬ m.H b ∧ (∀ i,¬ blk os m i b) ∧ v.ownBlock ≠ some b) {q : Nat} (hfr : ¬ m.D q) :
  ∃ m',(Builtin.append_ #[T,T] ty #[v,x]).run P m.w = .ok (m'.ν q) m'.w ∧ m.le m' ∧ (∀ i,m'.D i ↔ m.D i ∨ i = q) ∧ (∃ A n c,m'.ν q = .slice A n c) ∧ ObjsOk w0 G0 m' ((q, .row ti.elem t q (xs ++ ys)) :: os):=by
 obtain ⟨hu,hpos,tj,_,_,i,z,zs,hi,hsz,hby,hz,hzc,_⟩:=y65q hΓ hf ht
 obtain ⟨A,c,news,rfl,hnl,hna,hnv,hn1,hni⟩:=hx
 have hzs : z.cells.size = t.size:=by
  obtain ⟨h1,h2,tj,h3,h4,i',z',zs',hi',hs',hb',hz',hc',hr'⟩:=y65q hΓ hf ht
  rw [hi] at hi'
  obtain rfl:=Option.some.inj hi'
  rw [hz] at hz'
  obtain rfl:=Option.some.inj hz'
  have hq:=(hr' m).length
  have hzl : ∀ t : Ty,(zeros t []).length = t.size:=by
   intro t
   have key : ∀ (t : Ty) (l : List V),(zeros t l).length = t.size + l.length:=by
    intro t
    induction t with
    | pair a b iha ihb=>intro l; simp only [zeros,iha,ihb,Ty.size]; omega
    | _=>intro l; simp [zeros,Ty.size]; try omega
   simpa using key t []
  rw [hc',List.size_toArray,← hq,hzl]
 have hmax : xs.length + ys.length ≤ maxLen:=by simp only [capN] at hcap; simp only [maxLen]; omega
 have h63 : ((xs.length + ys.length : Nat) : Int) ≤ 9223372036854775807:=by simp only [capN] at hcap; omega
 have hbytes : (xs.length + ys.length) * i.bytes ≤ 140737488355328:=by
  simp only [capN] at hcap
  have h1:=Nat.mul_le_mul hcap hby
  omega
 have hG : ∀ (w' : World),(∀ b,m.G b → w'.heap[b]? = m.w.heap[b]?) → ∀ b,m.G b → m.G b ∧ w'.heap[b]? = m.w.heap[b]?:=fun w' h b hb=>⟨hb,h b hb⟩
 by_cases hy0 : ys.length = 0
 ·-- nothing is appended
  have : ys = []:=List.eq_nil_of_length_eq_zero hy0
  subst this
  have : b2 = []:=List.eq_nil_of_length_eq_zero (by simpa using hl2)
  subst this
  rw [List.append_nil] at hnd hbl
  obtain ⟨m',hle,hw,hn,hν,hok'⟩:=hok.newRow' m.w ti.elem t (xs ++ []) v (match v.ownBlock with | some b=>b :: b1.flatten | none=>[]) hok.base (fun _ _=>rfl) (fun _ _=>rfl) (Nat.le_refl _) (fun _ _ _=>rfl) (by simpa using hrow) (by
   rw [List.append_nil]
   cases hob : v.ownBlock with
   | none=>exact .inl ⟨hob,rfl⟩
   | some b=>exact .inr ⟨b,hob,b1,rfl,hl1,hin b hob⟩) (by
   cases hob : v.ownBlock with
   | none=>exact List.nodup_nil
   | some b=>exact List.nodup_cons.2 ⟨fun hm=>(hbl b hm).2.2.2.2.2 hob,hnd⟩) hfr (by
   intro b hb
   cases hob : v.ownBlock with
   | none=>rw [hob] at hb; simp at hb
   | some b' =>
    rw [hob] at hb
    rcases List.mem_cons.1 hb with e | e
    ·subst e
     obtain ⟨a,n,c,hv',rfl⟩:=ownBlock_some hob
     exact hv a n c hv'
    ·obtain ⟨k1,k2,k3,k4,k5,_⟩:=hbl b e
     exact ⟨k1,k2,k3,k4,k5⟩)
  refine ⟨m', ?_,hle,hn, ?_,hok'⟩
  ·rw [hν,hw]
   rcases hrow with ⟨rfl,_⟩ | ⟨b,c',cs,rfl,_,h1,_⟩
   ·exact y66q hu hi _ _ _ _ _ _ (Nat.le_refl _)
   ·exact y66q hu hi _ _ _ _ _ _ h1
  ·rw [hν]
   rcases hrow with ⟨rfl,_⟩ | ⟨b,c',cs,rfl,_,h1,_⟩
   ·exact ⟨_,_,_,rfl⟩
   ·exact ⟨_,_,_,rfl⟩
 ·obtain ⟨ad,rfl,hcells⟩:=hna (by omega)
  have fresh : ∀ (old : Nat) (flat : List Value),flat.length = xs.length * t.size → (∀ j,j < xs.length → Val m.w m.G t (xs.getD j t.zero) ((flat.drop (j * t.size)).take t.size)) → (∀ j,j < xs.length → Inn m.w m.G t (xs.getD j t.zero) ((flat.drop (j * t.size)).take t.size) (b1.getD j [])) → old < xs.length + ys.length →
    (Builtin.append_ #[T,T] ty #[v, .slice (some ad) ys.length c]).run P m.w = .ok (.slice (some ⟨m.w.heap.size,0,none⟩) (xs.length + ys.length) (grownCap m.w (xs.length + ys.length) old ti.elem))
     (m.w.drew.alloc (.cells (flat ++ news ++ (Builtin.zeroCells z.cells (grownCap m.w (xs.length + ys.length) old ti.elem - (xs.length + ys.length))).toList).toArray ti.elem)) →
    ∃ m',(Builtin.append_ #[T,T] ty #[v, .slice (some ad) ys.length c]).run P m.w = .ok (m'.ν q) m'.w ∧ m.le m' ∧ (∀ i,m'.D i ↔ m.D i ∨ i = q) ∧ (∃ A n c,m'.ν q = .slice A n c) ∧ ObjsOk w0 G0 m' ((q, .row ti.elem t q (xs ++ ys)) :: os):=by
   intro old flat hfl hfv hfi hold hrun
   have hge:=grownCap_ge m.w (xs.length + ys.length) old ti.elem
   have hcm:=grownCap_le_maxLen m.w (xs.length + ys.length) old ti.elem hmax
   generalize grownCap m.w (xs.length + ys.length) old ti.elem = gc at hrun hge hcm
   generalize hcur : flat ++ news ++ (Builtin.zeroCells z.cells (gc - (xs.length + ys.length))).toList = cur at hrun
   have hheap : ∀ b,b < m.w.heap.size → (m.w.drew.alloc (.cells cur.toArray ti.elem)).heap[b]? = m.w.heap[b]?:=fun b hb=>Below.heap_alloc m.w.drew _ _ hb
   have hsame : ∀ b,m.G b → m.G b ∧ (m.w.drew.alloc (.cells cur.toArray ti.elem)).heap[b]? = m.w.heap[b]?:=fun b hb=>⟨hb,hheap b (hok.liveG b hb)⟩
   have hrow' : RowAt (m.w.drew.alloc (.cells cur.toArray ti.elem)) m.G ti.elem t (xs ++ ys) (.slice (some ⟨m.w.heap.size,0,none⟩) (xs.length + ys.length) gc):=by
    have hlen : (xs ++ ys).length = xs.length + ys.length:=List.length_append
    rw [← hlen]
    refine RowAt.mk (flat:=flat ++ news) (heap_alloc_new m.w.drew _) (by omega) hcm ?_ ?_ ?_
    ·rw [← hcur]
     simp only [List.length_append,Array.length_toList,size_zeroCells,hzs,hfl,hnl,← Nat.add_mul]
     congr 1; omega
    ·rw [← hcur,hlen]
     have : (xs.length + ys.length) * t.size = (flat ++ news).length:=by rw [List.length_append,hfl,hnl,Nat.add_mul]
     rw [this,List.take_left]
    ·exact y127q hfl hnl (fun j hj=>Val.mono hsame _ _ _ (hfv j hj)) (fun j hj=>Val.mono hsame _ _ _ (hnv j hj))
   have hrin : RowIn (m.w.drew.alloc (.cells cur.toArray ti.elem)) m.G t (xs ++ ys) (.slice (some ⟨m.w.heap.size,0,none⟩) (xs.length + ys.length) gc) (m.w.heap.size :: (b1 ++ b2).flatten):=by
    have hlen : (xs ++ ys).length = xs.length + ys.length:=List.length_append
    have hff : (flat ++ news).length = (xs ++ ys).length * t.size:=by rw [List.length_append,hfl,hnl,hlen,Nat.add_mul]
    have hmono : ∀ (y : t.den) (cs : List Value) (bl : List Nat),(∀ b ∈ bl,b ∈ (b1 ++ b2).flatten) → Inn m.w m.G t y cs bl → Inn (m.w.drew.alloc (.cells cur.toArray ti.elem)) m.G t y cs bl:=fun y cs bl hb hi =>
     Inn.mono hsame t y cs bl (fun b hm=>hheap b (hbl b (hb b hm)).2.1) hi
    refine RowIn.mk (flat:=flat ++ news) (heap_alloc_new m.w.drew _) ?_ hff (by rw [List.length_append,hl1,hl2,hlen]) ?_
    ·rw [← hcur,← hff,List.take_left]
    ·exact inns_append hfl hnl hl1 (fun j hj=>hmono _ _ _ (fun b hm=>by rw [List.flatten_append]; exact List.mem_append_left _ (y17q hm)) (hfi j hj)) (fun j hj=>hmono _ _ _ (fun b hm=>by rw [List.flatten_append]; exact List.mem_append_right _ (y17q hm)) (hni j hj))
   obtain ⟨m',hle,hw,hn,hν,hok'⟩:=hok.newRow' _ ti.elem t (xs ++ ys) _ _ ((hok.base.drew).alloc (by simpa using hok.base.size) _) (fun b hb=>(hsame b hb).2) (fun b hb=>hheap b (hok.liveH b hb)) (by simp) (fun i b hb=>hheap b (hok.out i b hb).2.2.1) hrow' hrin (List.nodup_cons.2 ⟨fun hm=>Nat.lt_irrefl _ (hbl _ hm).2.1,hnd⟩) hfr (by
    intro b hb
    rcases List.mem_cons.1 hb with e1 | e1
    case inr =>
     obtain ⟨k1,k2,k3,k4,k5,_⟩:=hbl b e1
     exact ⟨k1,by simpa using Nat.lt_succ_of_lt k2,k3,k4,k5⟩
    subst e1
    refine ⟨.inl hok.base.size,by simp,fun hg=>?_,fun hg=>?_,fun i hi=>?_⟩
    ·have:=hok.liveG _ hg; simp at this
    ·have:=hok.liveH _ hg; simp at this
    ·have:=(hok.out i _ hi).2.2.1; simp at this)
   exact ⟨m',by rw [hν,hw]; exact hrun,hle,hn,⟨_,_,_,hν⟩,hok'⟩
  rcases hrow with ⟨rfl,rfl⟩ | ⟨b,cc,cs,rfl,hh,h1,h2,h3,hel⟩
  ·refine fresh 0 [] (by simp) (fun j hj=>absurd hj (by simp)) (fun j hj=>absurd hj (by simp)) (by simp; omega) ?_
   have hb0 : ys.length * i.bytes ≤ 281474976710656:=by simp only [List.length_nil,Nat.zero_add] at hbytes; omega
   have hr:=run_append_nil (P:=P) m.w T ty ti.elem i z hu hi hz ad ys.length c news (by rw [hnl,hsz]) hcells (by omega) (by simp only [List.length_nil,Nat.zero_add] at h63; exact h63) hb0
   simp only [List.length_nil,Nat.zero_add,List.nil_append]
   rw [hr]
   congr 3
   apply Array.ext'
   simp
  ·obtain ⟨flat,g1,g2,g3',g4⟩:=flat_of (w:=m.w) (sz:=t.size) (fun j cs'=>Val m.w m.G t (xs.getD j t.zero) cs' ∧ Inn m.w m.G t (xs.getD j t.zero) cs' (b1.getD j [])) b 0 xs.length fun j hj=>by
    obtain ⟨cs',hc',hv'⟩:=hel j hj
    obtain ⟨cs2,k1,k2,k3⟩:=hin b rfl j hj
    have:=y23q hc' k1 (by rw [hv'.length,k2])
    subst this
    exact ⟨cs',by simpa using hc',⟨hv',k3⟩,hv'.length,Val.oneCells (m:=m) hv'⟩
   have g3:=fun j hj=>(g3' j hj).1
   have g5:=fun j hj=>(g3' j hj).2
   have hcflat : flat = cs.take (xs.length * t.size):=by
    have hcg:=(y37q hh 0 flat).1 g2
    have hle : xs.length * t.size ≤ cs.length:=by rw [h3]; exact Nat.mul_le_mul_right _ h1
    apply List.ext_getElem?
    intro q
    by_cases hq : q < flat.length
    ·rw [List.getElem?_eq_getElem hq,List.getElem?_take,if_pos (by omega)]
     have:=hcg q _ (List.getElem?_eq_getElem hq)
     rw [Nat.zero_add] at this
     exact this.symm
    ·rw [List.getElem?_eq_none (by omega),List.getElem?_take,if_neg (by omega)]
   by_cases hroom : xs.length + ys.length ≤ cc
   ·-- there is room
    have hfit : xs.length * i.size + news.length ≤ cs.toArray.size:=by
     rw [hsz,hnl,List.size_toArray,h3,← Nat.add_mul]
     exact Nat.mul_le_mul_right _ hroom
    have hr:=run_append_room (P:=P) m.w T ty ti.elem i hu hi b xs.length cc cs.toArray hh ad ys.length c news (by rw [hnl,hsz]) hcells hn1 hroom hfit
    rw [hsz] at hr
    have hfit' : xs.length * t.size + news.length ≤ cs.length:=by rw [hsz] at hfit; simpa using hfit
    obtain ⟨o1,o2,o3,o4,o5⟩:=hv _ _ _ rfl
    simp only at o1 o2 o3 o4 o5
    have hheap : ∀ q,q ≠ b → ∀ ncs,(m.w.setRow b ncs).heap[q]? = m.w.heap[q]?:=fun q hq ncs=>setRow_other _ _ _ _ hq
    generalize hcur : cs.toArray.toList.take (xs.length * t.size) ++ news ++ cs.toArray.toList.drop (xs.length * t.size + news.length) = cur at hr
    have hnh:=setRow_heap m.w b _ cur.toArray _ _ hh
    have hsame : ∀ q,m.G q → m.G q ∧ (m.w.setRow b cur.toArray).heap[q]? = m.w.heap[q]?:=fun q hq=>⟨hq,hheap q (fun e=>o3 (e ▸ hq)) _⟩
    have hrow' : RowAt (m.w.setRow b cur.toArray) m.G ti.elem t (xs ++ ys) (.slice (some ⟨b,0,none⟩) (xs.length + ys.length) cc):=by
     have hlen : (xs ++ ys).length = xs.length + ys.length:=List.length_append
     rw [← hlen]
     refine RowAt.mk (flat:=flat ++ news) hnh (by omega) h2 ?_ ?_ ?_
     ·rw [← hcur,y126q _ _ _ hfit']; exact h3
     ·rw [← hcur,hlen,hcflat]
      have hl2 : (cs.take (xs.length * t.size) ++ news).length = (xs.length + ys.length) * t.size:=by
       rw [List.length_append,← hcflat,g1,hnl,Nat.add_mul]
      rw [← hl2,List.take_left]
     ·exact y127q g1 hnl (fun j hj=>Val.mono hsame _ _ _ (g3 j hj)) (fun j hj=>Val.mono hsame _ _ _ (hnv j hj))
    have hrin : RowIn (m.w.setRow b cur.toArray) m.G t (xs ++ ys) (.slice (some ⟨b,0,none⟩) (xs.length + ys.length) cc) (b :: (b1 ++ b2).flatten):=by
     have hlen : (xs ++ ys).length = xs.length + ys.length:=List.length_append
     have hff : (flat ++ news).length = (xs ++ ys).length * t.size:=by rw [List.length_append,g1,hnl,hlen,Nat.add_mul]
     have hmono : ∀ (y : t.den) (cs : List Value) (bl : List Nat),(∀ b ∈ bl,b ∈ (b1 ++ b2).flatten) → Inn m.w m.G t y cs bl → Inn (m.w.setRow b cur.toArray) m.G t y cs bl:=fun y cs bl hb hi =>
      Inn.mono hsame t y cs bl (fun p hm=>hheap p (fun e=>(hbl p (hb p hm)).2.2.2.2.2 (by rw [e]; rfl)) _) hi
     refine RowIn.mk (flat:=flat ++ news) hnh ?_ hff (by rw [List.length_append,hl1,hl2,hlen]) ?_
     ·rw [← hff,← hcur,hcflat,List.take_left]
     ·exact inns_append g1 hnl hl1 (fun j hj=>hmono _ _ _ (fun b hm=>by rw [List.flatten_append]; exact List.mem_append_left _ (y17q hm)) (g5 j hj)) (fun j hj=>hmono _ _ _ (fun b hm=>by rw [List.flatten_append]; exact List.mem_append_right _ (y17q hm)) (hni j hj))
    obtain ⟨m',hle,hw,hn,hν,hok'⟩:=hok.newRow' _ ti.elem t (xs ++ ys) _ _ (kept_setRow hok.base o1 _) (fun q hq=>(hsame q hq).2) (fun q hq=>hheap q (fun e=>o4 (e ▸ hq)) _) (by simp [World.setRow]) (fun i q hq=>hheap q (fun e=>o5 i (e ▸ hq)) _) hrow' hrin (List.nodup_cons.2 ⟨fun hm=>(hbl _ hm).2.2.2.2.2 rfl,hnd⟩) hfr (by
     intro p hp
     rcases List.mem_cons.1 hp with e1 | e1
     ·subst e1
      exact ⟨o1,by simpa [World.setRow] using o2,o3,o4,o5⟩
     ·obtain ⟨k1,k2,k3,k4,k5,_⟩:=hbl p e1
      exact ⟨k1,by simpa [World.setRow] using k2,k3,k4,k5⟩)
    exact ⟨m',by rw [hν,hw]; exact hr,hle,hn,⟨_,_,_,hν⟩,hok'⟩
   ·-- it grows
    refine fresh cc flat g1 g3 g5 (by omega) ?_
    have hr:=run_append_grow (P:=P) m.w T ty ti.elem i z hu hi hz ⟨b,0,none⟩ xs.length cc flat (by rw [g1,hsz]) (fun j u hu'=>by rw [y47q]; exact g2 j u hu') ad ys.length c news (by rw [hnl,hsz]) hcells (by omega) h63 (growslice_fits (by omega) hbytes)
    rw [hr]
    congr 3
    apply Array.ext'
    simp
theorem append_sound (hΓ : TabOk P Γ) (hok : ObjsOk w0 G0 m os) {T : Nat} {ti : TI} (hf : find Γ T = some ti) {t : Ty} (ht : SlOf ti.ty t) (hno : t.noOwn = true) {xs ys : List t.den} {v x : Value} {ty : TypeId}
  (hrow : RowAt m.w m.G ti.elem t xs v) (hx : Src m t ys x) (hcap : xs.length + ys.length ≤ capN)
  (hv : ∀ a n c,v = .slice (some a) n c → Mine w0 a.block ∧ a.block < m.w.heap.size ∧ ¬ m.G a.block ∧ ¬ m.H a.block ∧ ∀ i,¬ blk os m i a.block) {q : Nat} (hfr : ¬ m.D q) :
  ∃ m',(Builtin.append_ #[T,T] ty #[v,x]).run P m.w = .ok (m'.ν q) m'.w ∧ m.le m' ∧ (∀ i,m'.D i ↔ m.D i ∨ i = q) ∧ (∃ A n c,m'.ν q = .slice A n c) ∧ ObjsOk w0 G0 m' ((q, .row ti.elem t q (xs ++ ys)) :: os):=by
 have hz : (List.replicate xs.length ([] : List Nat) ++ List.replicate ys.length []).flatten = []:=by rw [List.flatten_append,y52q,y52q]; rfl
 refine y128q hΓ hok hf ht (b1:=List.replicate xs.length []) (b2:=List.replicate ys.length []) hrow (fun b hb j hj=>?_) (hx.inn hno) (by simp) (by simp) hcap hv (by rw [hz]; exact List.nodup_nil) (fun b hb=>by rw [hz] at hb; simp at hb) hfr
 rcases hrow with ⟨e,_⟩ | ⟨b',c,cs,e,_,_,_,_,hel⟩
 ·rw [e] at hb; cases hb
 ·rw [e] at hb
  simp only [Value.ownBlock,Option.map_some,Option.some.injEq] at hb
  subst hb
  obtain ⟨cs',h1,h2⟩:=hel j hj
  exact ⟨cs',h1,h2.length,by rw [getD_rep]; exact Inn.nil hno h2.length⟩
end
end Go.Ev
end
section
namespace Go.Ev
open Go.RowKit (Below)
theorem y114q : ∀ (t : Ty) (l : List V),zeros t l = zeros t [] ++ l
 | .int _,_=>rfl
 | .bool,_=>rfl
 | .str,_=>rfl
 | .sl _,_=>rfl
 | .unit,_=>rfl
 | .any,_=>rfl
 | .osl _ _,_=>rfl
 | .mp _ _,_=>rfl
 | .omp _ _,_=>rfl
 | .pair a b,l=>by simp only [zeros]; rw [y114q a (zeros b l),y114q b l,y114q a (zeros b []),List.append_assoc]
theorem zeros_length (t : Ty) : (zeros t []).length = t.size:=by
 have key : ∀ (t : Ty) (l : List V),(zeros t l).length = t.size + l.length:=by
  intro t
  induction t with
  | pair a b iha ihb=>intro l; simp only [zeros,iha,ihb,Ty.size]; omega
  | _=>intro l; simp [zeros,Ty.size]; try omega
 simpa using key t []
theorem zero_val {m : St} : ∀ {t : Ty} {cs : List Value},R2 (Lv m) (zeros t []) cs → Val m.w m.G t t.zero cs
 | .int _,[_],⟨h,_⟩=>by simp only [Lv] at h; subst h; rfl
 | .bool,[_],⟨h,_⟩=>by simp only [Lv] at h; subst h; rfl
 | .str,[_],⟨⟨s,h,e⟩,_⟩=>⟨s,by rw [h],e⟩
 | .sl t,[v],⟨h,_⟩=>by
  simp only [Lv] at h
  subst h
  exact ⟨none,0,0,rfl,rfl,Nat.le_refl _,fun j hj=>absurd hj (by simp [Ty.zero])⟩
 | .unit,[],_=>rfl
 | .any,[v],⟨h,_⟩=>⟨v,rfl,h⟩
 | .osl _ _,[v],⟨h,_⟩=>⟨v,rfl,h.oneCell⟩
 | .mp _ _,[v],⟨h,_⟩=>h
 | .omp _ _,[v],⟨h,_⟩=>⟨v,rfl,h.oneCell⟩
 | .pair a b,cs,h=>by
  simp only [zeros] at h
  rw [y114q] at h
  obtain ⟨c1,c2,e,h1,h2⟩:=h.split
  exact ⟨c1,c2,e,zero_val h1,zero_val h2⟩
theorem zero_inn {m : St} {w : World} {G : Nat → Prop} : ∀ {t : Ty} {cs : List Value},t.noMp = true → R2 (Lv m) (zeros t []) cs → Inn w G t t.zero cs []
 | .int _,_,_,_ | .bool,_,_,_ | .str,_,_,_ | .sl _,_,_,_ | .unit,_,_,_ | .any,_,_,_ | .mp _ _,_,_,_=>rfl
 | .omp _ _,_,h,_=>by simp [Ty.noMp] at h
 | .osl T t,[v],_,⟨h,_⟩=>⟨v,rfl, .inl ⟨h,rfl⟩, .inl ⟨by simp only [Lv] at h; rw [h]; rfl,rfl⟩⟩
 | .pair a b,cs,hm,h=>by
  simp only [zeros] at h
  simp only [Ty.noMp,Bool.and_eq_true] at hm
  rw [y114q] at h
  obtain ⟨c1,c2,e,h1,h2⟩:=h.split
  exact ⟨c1,c2,[],[],e,by rw [← h1.length,zeros_length],rfl,zero_inn hm.1 h1,zero_inn hm.2 h2⟩
theorem fill_step {place : Nat → Option (Nat × Nat)} {cells : List Value} {i off size : Nat} {v : Value} {vs : List Value} {rest : List (Nat × Value)} (hp : place i = some (off,size)) (hv : v.cells = vs.toArray) (hs : vs.length = size) (hfit : off + vs.length ≤ cells.length) :
  Instr.fill place cells.toArray ((i,v) :: rest) = Instr.fill place (cells.take off ++ vs ++ cells.drop (off + vs.length)).toArray rest:=by
 have e1 : ¬ (v.cells.size ≠ size || off + v.cells.size > cells.toArray.size) = true:=by
  rw [hv]
  simp only [List.size_toArray,ne_eq,decide_not,gt_iff_lt,Bool.or_eq_true,Bool.not_eq_eq_eq_not,Bool.not_true,decide_eq_false_iff_not,decide_eq_true_eq]
  omega
 have key : (v.cells.zipIdx.foldl (fun cs (x : Value × Nat)=>cs.setIfInBounds (off + x.2) x.1) cells.toArray) = (cells.take off ++ vs ++ cells.drop (off + vs.length)).toArray:=by
  rw [← Array.foldl_toList,Array.toList_zipIdx,hv]
  obtain ⟨h1,h2⟩:=Great.foldl_set off vs 0 cells.toArray
  apply Array.ext_getElem?
  intro k
  have h2:=h2 k
  refine Eq.trans h2 ?_
  simp only [List.getElem?_toArray,Nat.add_zero,List.size_toArray]
  rw [y113q _ _ _ hfit]
  by_cases q1 : k < off
  ·rw [if_neg (by omega),if_pos q1]
  ·rw [if_neg q1]
   by_cases q2 : k < off + vs.length
   ·rw [if_pos ⟨by omega,q2,by omega⟩,if_pos q2]
   ·rw [if_neg (by omega),if_neg q2]
 conv=>lhs; unfold Instr.fill
 simp only [hp]
 rw [if_neg e1,key]
theorem madeCells_piece (z : List Value) (hz : 0 < z.length) (n j : Nat) (hj : j < n) : (((madeCells z.toArray (n * z.length)).toList.drop (j * z.length)).take z.length) = z:=by
 have hle : (j + 1) * z.length ≤ n * z.length:=Nat.mul_le_mul_right _ hj
 rw [Nat.add_mul,Nat.one_mul] at hle
 apply List.ext_getElem?
 intro q
 rw [List.getElem?_take]
 by_cases hq : q < z.length
 ·rw [if_pos hq,List.getElem?_drop]
  have h1 : j * z.length + q < n * z.length:=by omega
  have h2 : (j * z.length + q) % z.length = q:=by rw [Nat.mul_comm,Nat.mul_add_mod,Nat.mod_eq_of_lt hq]
  simp [madeCells,h1,h2,hq]
 ·rw [if_neg hq,List.getElem?_eq_none (by omega)]
section
variable {P : Program} {w0 : Base} {G0 : Nat → Prop} {N : Nat} {F : List (Nat × Obj)} {m : St} {e : Env} {tm : Array Value} {Γ : Tab} {ρ : Type} {os : List (Nat × Obj)}
theorem Rel.freshRowX (hR : Rel w0 G0 N F m e tm) {T : Nat} {t : Ty} {xs : List t.den} {cur : List Value} {c : Nat} {bls : List (List Nat)} (hc : xs.length ≤ c) (hm : c ≤ maxLen) (hl : cur.length = c * t.size)
  (hv : ∀ j,j < xs.length → Val m.w m.G t (xs.getD j t.zero) ((cur.drop (j * t.size)).take t.size)) (hi : ∀ j,j < xs.length → Inn m.w m.G t (xs.getD j t.zero) ((cur.drop (j * t.size)).take t.size) (bls.getD j [])) (hbl : bls.length = xs.length)
  (hnd : bls.flatten.Nodup) (hb : ∀ b ∈ bls.flatten,Mine w0 b ∧ b < m.w.heap.size ∧ ¬ m.G b ∧ ¬ m.H b ∧ ∀ i,¬ blk (e.objs ++ F) m i b) (hfr : ¬ m.D e.next) :
  ∃ m',Stp m e m' (e.new (.row T t e.next xs)) ∧ m'.w = m.w.alloc (.cells cur.toArray T) ∧ Rel w0 G0 N F m' (e.new (.row T t e.next xs)) tm ∧ Lv m' (.row e.next) (.slice (some ⟨m.w.heap.size,0,none⟩) xs.length c):=by
 have hok:=hR.ok
 have hheap : ∀ b,b < m.w.heap.size → (m.w.alloc (.cells cur.toArray T)).heap[b]? = m.w.heap[b]?:=fun b hb=>Below.heap_alloc m.w _ _ hb
 have hsame : ∀ b,m.G b → m.G b ∧ (m.w.alloc (.cells cur.toArray T)).heap[b]? = m.w.heap[b]?:=fun b hb=>⟨hb,hheap b (hok.liveG b hb)⟩
 have hlt : xs.length * t.size ≤ cur.length:=by rw [hl]; exact Nat.mul_le_mul_right _ hc
 have hpc : ∀ j,j < xs.length → ((cur.take (xs.length * t.size)).drop (j * t.size)).take t.size = (cur.drop (j * t.size)).take t.size:=fun j hj=>by
  have hle : (j + 1) * t.size ≤ xs.length * t.size:=Nat.mul_le_mul_right _ hj
  rw [Nat.add_mul,Nat.one_mul] at hle
  rw [List.drop_take,List.take_take,Nat.min_eq_left (by omega)]
 have hrow : RowAt (m.w.alloc (.cells cur.toArray T)) m.G T t xs (.slice (some ⟨m.w.heap.size,0,none⟩) xs.length c):=by
  refine RowAt.mk (flat:=cur.take (xs.length * t.size)) (heap_alloc_new m.w _) hc hm hl rfl fun j hj=>?_
  rw [hpc j hj]
  exact Val.mono hsame _ _ _ (hv j hj)
 have hin : RowIn (m.w.alloc (.cells cur.toArray T)) m.G t xs (.slice (some ⟨m.w.heap.size,0,none⟩) xs.length c) (m.w.heap.size :: bls.flatten):=by
  refine RowIn.mk (flat:=cur.take (xs.length * t.size)) (heap_alloc_new m.w _) rfl (by rw [List.length_take]; omega) hbl fun j hj=>?_
  rw [hpc j hj]
  exact Inn.mono hsame t _ _ _ (fun b hm=>hheap b (hb b (y17q hm)).2.1) (hi j hj)
 obtain ⟨m',hle,hw,hn,hν,hok'⟩:=hok.newRow' _ T t xs _ _ (hok.base.alloc hok.base.size _) (fun b hb=>(hsame b hb).2) (fun b hb=>hheap b (hok.liveH b hb)) (by simp) (fun i b hb=>hheap b (hok.out i b hb).2.2.1) hrow hin (List.nodup_cons.2 ⟨fun hm=>Nat.lt_irrefl _ (hb _ hm).2.1,hnd⟩) hfr (by
  intro b hbm
  rcases List.mem_cons.1 hbm with e1 | e1
  case inr =>
   obtain ⟨k1,k2,k3,k4,k5⟩:=hb b e1
   exact ⟨k1,by simpa using Nat.lt_succ_of_lt k2,k3,k4,k5⟩
  subst e1
  refine ⟨.inl hok.base.size,by simp,fun hg=>?_,fun hg=>?_,fun i hi=>?_⟩
  ·have:=hok.liveG _ hg; simp at this
  ·have:=hok.liveH _ hg; simp at this
  ·have:=(hok.out i _ hi).2.2.1; simp at this)
 exact ⟨m', .new hle hn rfl,hw,hR.push hfr hle _ hok',(hn _).2 (.inr rfl),hν.symm,_,_,_,rfl⟩
theorem Rel.freshRow (hR : Rel w0 G0 N F m e tm) {T : Nat} {t : Ty} {xs : List t.den} {cur : List Value} {c : Nat} (hc : xs.length ≤ c) (hm : c ≤ maxLen) (hl : cur.length = c * t.size)
  (hv : ∀ j,j < xs.length → Val m.w m.G t (xs.getD j t.zero) ((cur.drop (j * t.size)).take t.size)) (hi : ∀ (w' : World) j,j < xs.length → Inn w' m.G t (xs.getD j t.zero) ((cur.drop (j * t.size)).take t.size) []) (hfr : ¬ m.D e.next) :
  ∃ m',Stp m e m' (e.new (.row T t e.next xs)) ∧ m'.w = m.w.alloc (.cells cur.toArray T) ∧ Rel w0 G0 N F m' (e.new (.row T t e.next xs)) tm ∧ Lv m' (.row e.next) (.slice (some ⟨m.w.heap.size,0,none⟩) xs.length c) :=
 hR.freshRowX (bls:=List.replicate xs.length []) hc hm hl hv (fun j hj=>by rw [getD_rep]; exact hi _ j hj) (by simp) (by rw [y52q]; exact List.nodup_nil) (fun b hb=>by rw [y52q] at hb; simp at hb) hfr
theorem makeSlice_sound (hΓ : TabOk P Γ) (hR : Rel w0 G0 N F m e tm) {T : Nat} {ti tj : TI} (hf : find Γ T = some ti) (hu : P.underlying T = some (.slice ti.elem)) (hj : find Γ ti.elem = some tj) (hpos : 0 < tj.ty.size) (hnm : tj.ty.noMp = true) (k j : IntKind) {n : Int} (h0 : 0 ≤ n) (hcap : n ≤ capN) (hfr : ¬ m.D e.next) :
  ∃ m' v,(Instr.makeSlice T (.int k n) (.int j n)).run P m.w = .ok v m'.w ∧ Stp m e m' (e.new (.row ti.elem tj.ty e.next (List.replicate n.toNat tj.ty.zero))) ∧ Rel w0 G0 N F m' (e.new (.row ti.elem tj.ty e.next (List.replicate n.toNat tj.ty.zero))) tm ∧ Lv m' (.row e.next) v:=by
 have hE:=hΓ _ tj hj
 obtain ⟨i,z,cs,hi,hs,hb,hz,hc,ha,hr⟩:=hE.info
 have hsm:=hE.small
 have hcl : cs.length = tj.ty.size:=by rw [← (hr m).length,zeros_length]
 have hrun:=run_make (P:=P) m.w T ti.elem i z hu hi hz k j n n h0 (Int.le_refl _) (by
  simp only [capN] at hcap
  have h1 : i.bytes * n.toNat ≤ 1024 * 68719476736:=Nat.mul_le_mul (by omega) (by omega)
  have h2 : ((i.bytes * n.toNat : Nat) : Int) ≤ ((1024 * 68719476736 : Nat) : Int):=Int.ofNat_le.2 h1
  rw [Int.natCast_mul,Int.toNat_of_nonneg h0] at h2
  omega) (by simp only [capN] at hcap; omega)
 have hval : Val m.w m.G tj.ty tj.ty.zero cs:=zero_val (hr m)
 obtain ⟨m',hle,hw,hR',hv⟩:=hR.freshRow (T:=ti.elem) (t:=tj.ty) (xs:=List.replicate n.toNat tj.ty.zero) (cur:=(madeCells cs.toArray (n.toNat * cs.length)).toList) (c:=n.toNat) (by simp) (by simp only [capN] at hcap; simp only [maxLen]; omega) (by simp [size_madeCells,hcl]) (by
  intro q hq
  simp only [List.length_replicate] at hq
  rw [← hcl,madeCells_piece cs (by omega) _ _ hq]
  have e1 : (List.replicate n.toNat tj.ty.zero).getD q tj.ty.zero = tj.ty.zero:=by simp [List.getD_eq_getElem?_getD,List.getElem?_replicate,hq]
  rw [e1]
  exact hval) (by
  intro w' q hq
  simp only [List.length_replicate] at hq
  rw [← hcl,madeCells_piece cs (by omega) _ _ hq]
  have e1 : (List.replicate n.toNat tj.ty.zero).getD q tj.ty.zero = tj.ty.zero:=by simp [List.getD_eq_getElem?_getD,List.getElem?_replicate,hq]
  rw [e1]
  exact zero_inn hnm (hr m)) hfr
 refine ⟨m',_, ?_,hle,hR',hv⟩
 rw [hrun,hw,hc,hs,← hcl]
 simp
end
end Go.Ev
end
section
namespace Go.Ev
open Go.RowKit (Below)
theorem y81q : ∀ (l : List Nat) (n : Nat),memN l n = true ↔ n ∈ l
 | [],n=>by simp [memN]
 | a :: r,n=>by
  simp only [memN]
  cases h : Nat.beq a n with
  | true=>have:=Nat.eq_of_beq_eq_true h; subst this; simp
  | false =>
   have hne : ¬ n = a:=fun q=>by subst q; simp at h
   simp [y81q r n,hne]
theorem y82q : ∀ (l : List Nat),nodupN l = true → l.Nodup
 | [],_=>List.nodup_nil
 | a :: r,h=>by
  simp only [nodupN] at h
  cases hm : memN r a with
  | true=>simp [hm] at h
  | false =>
   simp only [hm] at h
   refine List.nodup_cons.2 ⟨fun hx=>?_,y82q r h⟩
   rw [(y81q r a).2 hx] at hm
   cases hm
theorem y94q : ∀ (l : List Nat) (os : List (Nat × Obj)) (i : Nat),find (eraseAll l os) i = if i ∈ l then none else find os i
 | [],os,i=>by simp [eraseAll]
 | a :: r,os,i=>by
  simp only [eraseAll]
  rw [y94q r,y30q (α:=Nat)]
  by_cases h1 : i ∈ r
  ·simp [h1]
  ·by_cases h2 : a = i
   ·subst h2; simp [h1]
   ·have : ¬ i = a:=fun q=>h2 q.symm
    simp [h1,h2,this]
theorem RowAt.trunc {w : World} {G : Nat → Prop} {T : Nat} {t : Ty} {xs : List t.den} {A : Option Addr} {n c hi : Nat} (h : RowAt w G T t xs (.slice A n c)) (hh : hi ≤ n) : RowAt w G T t (xs.take hi) (.slice A hi c):=by
 rcases h with ⟨e,rfl⟩ | ⟨b,c2,cs,e,hp,h1,h2,h3,hx⟩
 ·simp only [Value.slice.injEq] at e
  obtain ⟨rfl,rfl,rfl⟩:=e
  have : hi = 0:=by omega
  subst this
  exact .inl ⟨rfl,rfl⟩
 ·simp only [Value.slice.injEq] at e
  obtain ⟨rfl,rfl,rfl⟩:=e
  have hl : (xs.take hi).length = hi:=by rw [List.length_take]; omega
  refine .inr ⟨b,c,cs,by rw [hl],hp,by omega,h2,h3,fun j hj=>?_⟩
  rw [hl] at hj
  obtain ⟨cs',k1,k2⟩:=hx j (by omega)
  refine ⟨cs',k1, ?_⟩
  have : (xs.take hi).getD j t.zero = xs.getD j t.zero:=by
   simp only [List.getD_eq_getElem?_getD,List.getElem?_take]
   rw [if_pos hj]
  rw [this]; exact k2
theorem flatten_take_sub : ∀ (l : List (List Nat)) (n : Nat),(l.take n).flatten.Sublist l.flatten
 | [],n=>by simp
 | a :: l,0=>by simp
 | a :: l,n + 1=>by
  simp only [List.take_succ_cons,List.flatten_cons]
  exact (List.Sublist.refl a).append (flatten_take_sub l n)
theorem RowIn.trunc {w : World} {G : Nat → Prop} {t : Ty} {xs : List t.den} {A : Option Addr} {n c hi : Nat} {bl : List Nat} (h : RowIn w G t xs (.slice A n c) bl) (hh : hi ≤ xs.length) : ∃ bl' : List Nat,RowIn w G t (xs.take hi) (.slice A hi c) bl' ∧ bl'.Sublist bl:=by
 rcases h with ⟨e,rfl⟩ | ⟨b,e,bls,rfl,hl,hx⟩
 ·refine ⟨[], .inl ⟨?_,rfl⟩, .refl _⟩
  cases A <;> simp_all [Value.ownBlock]
 ·refine ⟨b :: (bls.take hi).flatten, .inr ⟨b, ?_,bls.take hi,rfl,by simp [hl],fun j hj=>?_⟩,(flatten_take_sub bls hi).cons_cons b⟩
  ·cases A <;> simp_all [Value.ownBlock]
  ·have hl2 : (xs.take hi).length = hi:=by rw [List.length_take]; omega
   rw [hl2] at hj
   obtain ⟨cs,k1,k2,k3⟩:=hx j (by omega)
   refine ⟨cs,k1,k2, ?_⟩
   have e1 : (xs.take hi).getD j t.zero = xs.getD j t.zero:=by
    simp only [List.getD_eq_getElem?_getD,List.getElem?_take]
    rw [if_pos hj]
   have e2 : (bls.take hi).getD j [] = bls.getD j []:=by
    simp only [List.getD_eq_getElem?_getD,List.getElem?_take]
    rw [if_pos hj]
   rw [e1,e2]; exact k3
theorem Inn.grow {w : World} {G G' : Nat → Prop} (hG : ∀ b,G b → G' b) {t : Ty} {x : t.den} {cs : List Value} {bl : List Nat} (h : Inn w G t x cs bl) : Inn w G' t x cs bl:=Inn.mono (fun b hb=>⟨hG b hb,rfl⟩) t x cs bl (fun _ _=>rfl) h
theorem RowAt.grow {w : World} {G G' : Nat → Prop} (hG : ∀ b,G b → G' b) {T : Nat} {t : Ty} {xs : List t.den} {v : Value} (h : RowAt w G T t xs v) : RowAt w G' T t xs v:=RowAt.mono (fun b hb=>⟨hG b hb,rfl⟩) h fun _ _ _ _=>rfl
theorem RowIn.grow {w : World} {G G' : Nat → Prop} (hG : ∀ b,G b → G' b) {t : Ty} {xs : List t.den} {v : Value} {bl : List Nat} (h : RowIn w G t xs v bl) : RowIn w G' t xs v bl:=RowIn.mono (fun b hb=>⟨hG b hb,rfl⟩) (fun _ _=>rfl) h
theorem rng_row {m : St} {id T n sz hi : Nat} {t : Ty} {xs : List t.den} {v : Value} (ho : Ob m id (.row T t n xs)) (hl : Lv m (.rng id sz 0 hi) v) : RowAt m.w m.G T t (xs.take hi) v ∧ (∃ bl,RowIn m.w m.G t (xs.take hi) v bl ∧ bl.Sublist (m.σ n)) ∧ hi ≤ xs.length:=by
 obtain ⟨h1,h2,_⟩:=ho
 obtain ⟨_,_,A,k,c,A',c',e1,hn,e2,hc,_,h0⟩:=hl
 obtain ⟨rfl,rfl⟩:=h0 rfl
 rw [e1] at h1 h2
 have hlen : xs.length = k:=by
  rcases h1 with ⟨e,rfl⟩ | ⟨b,c2,cs,e,_⟩
  ·simp only [Value.slice.injEq] at e; rw [e.2.1]; rfl
  ·simp only [Value.slice.injEq] at e; exact e.2.1.symm
 rw [Nat.sub_zero] at e2
 rw [e2]
 exact ⟨h1.trunc hn,h2.trunc (by omega),by omega⟩
section
variable {m : St} {os ov : List (Nat × Obj)} {st : Bool} {Gd : Nat → Prop}
structure Tk (m : St) (os ov : List (Nat × Obj)) (st : Bool) (Gd : Nat → Prop) : Prop where
 ho : ∀ i o,find os i = some o → Ob m i o
 hov : ∀ i o,find ov i = some o → Ob m i o
 hG : ∀ b,m.G b → Gd b
 hR : st = false → ∀ i o b,find ov i = some o → frzB m i o b → Gd b
 inj : ∀ i j b,blk os m i b → blk os m j b → i = j
theorem takeC_sound (hk : Tk m os ov st Gd) : ∀ (t : Ty) (l : List V) (x : t.den) (cs : List Value),(idsT t l).Nodup → takeC st os ov t l = some x → R2 (Lv m) l cs →
  Val m.w Gd t x cs ∧ ∃ bl,Inn m.w Gd t x cs bl ∧ bl.Nodup ∧ ∀ b ∈ bl,∃ i ∈ idsT t l,blk os m i b
 | .int k,l,x,cs,_,h,hl=>⟨y31q hk.hov hk.hG hk.hR h hl,[],rfl,List.nodup_nil,fun b hb=>by simp at hb⟩
 | .bool,l,x,cs,_,h,hl=>⟨y31q hk.hov hk.hG hk.hR h hl,[],rfl,List.nodup_nil,fun b hb=>by simp at hb⟩
 | .str,l,x,cs,_,h,hl=>⟨y31q hk.hov hk.hG hk.hR h hl,[],rfl,List.nodup_nil,fun b hb=>by simp at hb⟩
 | .sl t,l,x,cs,_,h,hl=>⟨y31q hk.hov hk.hG hk.hR h hl,[],rfl,List.nodup_nil,fun b hb=>by simp at hb⟩
 | .unit,l,x,cs,_,h,hl=>⟨y31q hk.hov hk.hG hk.hR h hl,[],rfl,List.nodup_nil,fun b hb=>by simp at hb⟩
 | .any,l,x,cs,_,h,hl=>⟨y31q hk.hov hk.hG hk.hR h hl,[],rfl,List.nodup_nil,fun b hb=>by simp at hb⟩
 | .mp _ _,l,x,cs,_,h,hl=>⟨y31q hk.hov hk.hG hk.hR h hl,[],rfl,List.nodup_nil,fun b hb=>by simp at hb⟩
 | .omp k v,l,x,cs,hn,h,hl=>by
  match l,cs,hl with
  | [],_,_=>simp [takeC] at h
  | _ :: _ :: _,_,_=>simp [takeC] at h
  | [y],[c],⟨h1,_⟩ =>
   cases y with
   | map id =>
    simp only [takeC] at h
    cases hf : find os id with
    | none=>simp [hf] at h
    | some o =>
     have hob:=hk.ho id o hf
     cases o with
     | map k' v' xs =>
      simp only [hf] at h
      obtain ⟨e,h⟩:=cast?_some h
      cases e
      subst h
      obtain ⟨_,rfl⟩:=h1
      have hmp : MapAt m.w m.G k v xs (m.β id):=hob
      exact ⟨⟨_,rfl,rfl,rfl⟩,[m.β id],⟨_,rfl,rfl,hmp.mono (fun b hb=>⟨hk.hG b hb,rfl⟩) rfl⟩,by simp,fun b hb=>⟨id,by simp [idsT],by simp at hb; subst hb; simp [blk,hf]⟩⟩
     | _=>simp [hf] at h
   | _=>simp [takeC] at h
 | .pair a b,l,x,cs,hn,h,hl=>by
  simp only [takeC] at h
  simp only [idsT] at hn ⊢
  rw [takeN_eq,y101q] at h hn ⊢
  cases h1 : takeC st os ov a (l.take a.size) with
  | none=>simp [h1] at h
  | some y =>
   cases h2 : takeC st os ov b (l.drop a.size) with
   | none=>simp [h1,h2] at h
   | some z =>
    simp only [h1,h2,Option.some.injEq] at h
    subst h
    have hnd:=List.nodup_append.1 hn
    obtain ⟨v1,b1,i1,n1,s1⟩:=takeC_sound hk a _ y _ hnd.1 h1 (hl.take a.size)
    obtain ⟨v2,b2,i2,n2,s2⟩:=takeC_sound hk b _ z _ hnd.2.1 h2 (hl.drop a.size)
    refine ⟨⟨_,_,(List.take_append_drop a.size cs).symm,v1,v2⟩,b1 ++ b2,⟨_,_,b1,b2,(List.take_append_drop a.size cs).symm,v1.length,rfl,i1,i2⟩,List.nodup_append.2 ⟨n1,n2,fun p hp q hq e=>?_⟩,fun p hp=>?_⟩
    ·subst e
     obtain ⟨i,hi,k1⟩:=s1 p hp
     obtain ⟨j,hj,k2⟩:=s2 p hq
     exact hnd.2.2 i hi j hj (hk.inj i j p k1 k2)
    ·rcases List.mem_append.1 hp with hp | hp
     ·obtain ⟨i,hi,k1⟩:=s1 p hp
      exact ⟨i,List.mem_append_left _ hi,k1⟩
     ·obtain ⟨i,hi,k1⟩:=s2 p hp
      exact ⟨i,List.mem_append_right _ hi,k1⟩
 | .osl T t,l,x,cs,hn,h,hl=>by
  match l,cs,hl with
  | [],cs,_=>simp [takeC] at h
  | _ :: _ :: _,cs,_=>rename_i v _ _; cases v <;> simp [takeC] at h
  | [v],[c],⟨hv,_⟩ =>
   cases v with
   | nil =>
    simp only [takeC,Option.some.injEq] at h
    subst h
    simp only [Lv] at hv
    subst hv
    exact ⟨⟨_,rfl,rfl,rfl⟩,[],⟨_,rfl, .inl ⟨rfl,rfl⟩, .inl ⟨rfl,rfl⟩⟩,List.nodup_nil,fun b hb=>by simp at hb⟩
   | row id =>
    simp only [takeC] at h
    have hv0:=hv
    obtain ⟨_,e1,_⟩:=hv
    cases hf : find os id with
    | none=>simp [hf] at h
    | some o =>
     cases o with
     | row U u q xs =>
      simp only [hf] at h
      cases hU : Nat.beq U T with
      | false=>simp [hU] at h
      | true =>
       simp only [hU] at h
       have:=Nat.eq_of_beq_eq_true hU
       subst this
       obtain ⟨e2,e3⟩:=cast?_some h
       cases e2
       subst e3
       obtain ⟨h1,h2,h3,_⟩:=hk.ho id _ hf
       subst e1
       exact ⟨⟨_,rfl,hv0.oneCell⟩,m.σ q,⟨_,rfl,h1.grow hk.hG,h2.grow hk.hG⟩,h3,fun b hb=>⟨id,by simp [idsT],by unfold blk; rw [hf]; exact hb⟩⟩
     | _=>simp [hf] at h
   | rng id sz lo hi =>
    cases lo with
    | succ=>simp [takeC] at h
    | zero =>
     simp only [takeC] at h
     cases hf : find os id with
     | none=>simp [hf] at h
     | some o =>
      cases o with
      | row U u q xs =>
       simp only [hf] at h
       cases hU : Nat.beq U T && Nat.beq sz u.size with
       | false=>simp [hU] at h
       | true =>
        cases hc : cast? (.sl u) (.sl t) xs with
        | none=>simp [hU,hc] at h
        | some ys =>
         simp only [hU,hc,Option.some.injEq] at h
         subst h
         rw [Bool.and_eq_true] at hU
         have:=Nat.eq_of_beq_eq_true hU.1
         subst this
         obtain ⟨e2,e3⟩:=cast?_some hc
         cases e2
         subst e3
         obtain ⟨h1,⟨bl,h2,h3⟩,_⟩:=rng_row (hk.ho id _ hf) hv
         exact ⟨⟨_,rfl,hv.oneCell⟩,bl,⟨_,rfl,h1.grow hk.hG,h2.grow hk.hG⟩,h3.nodup (hk.ho id _ hf).2.2.1,fun b hb=>⟨id,by simp [idsT],by unfold blk; rw [hf]; exact h3.subset hb⟩⟩
      | _=>simp [hf] at h
   | _=>simp [takeC] at h
theorem takeT_sound (hk : Tk m os ov st Gd) {t : Ty} {l : List V} {x : t.den} {cs : List Value} (hn : (idsT t l).Nodup) (h : takeT st os ov t l = some x) (hl : R2 (Lv m) l cs) :
  Val m.w Gd t x cs ∧ ∃ bl,Inn m.w Gd t x cs bl ∧ bl.Nodup ∧ ∀ b ∈ bl,∃ i ∈ idsT t l,blk os m i b:=by
 unfold takeT at h
 cases ht : t.noOwn with
 | true =>
  rw [ht] at h
  have hv:=y31q hk.hov hk.hG hk.hR h hl
  exact ⟨hv,[],Inn.nil ht hv.length,List.nodup_nil,fun b hb=>by simp at hb⟩
 | false =>
  rw [ht] at h
  exact takeC_sound hk t l x cs hn h hl
theorem y83q (hk : Tk m os ov st Gd) {t : Ty} {s : SV} {x : t.den} {v : Value} (hn : (idsT t s.cells).Nodup) (h : takeSV st os ov t s = some x) (hs : Sv m s v) :
  ∃ cs,AsVal t cs v ∧ Val m.w Gd t x cs ∧ ∃ bl,Inn m.w Gd t x cs bl ∧ bl.Nodup ∧ ∀ b ∈ bl,∃ i ∈ idsT t s.cells,blk os m i b:=by
 unfold takeSV at h
 cases s with
 | tup l=>simp at h
 | one y =>
  cases ha : t.isAgg with
  | true=>simp [ha] at h
  | false =>
   simp only [ha] at h
   exact ⟨[v],by simp [AsVal,ha],takeT_sound hk hn h ⟨hs,trivial⟩⟩
 | agg l =>
  cases ha : t.isAgg with
  | false=>simp [ha] at h
  | true =>
   simp only [ha] at h
   obtain ⟨cs,e,hr⟩:=hs
   exact ⟨cs,by simp [AsVal,ha,e],takeT_sound hk hn h hr⟩
theorem takeSV_isTup {t : Ty} {s : SV} {x : t.den} (h : takeSV st os ov t s = some x) : s.isTup = false:=by
 cases s <;> simp_all [takeSV,SV.isTup]
end
section
variable {w0 : Base} {G0 : Nat → Prop} {N : Nat} {F : List (Nat × Obj)} {m : St} {e : Env} {tm : Array Value}
theorem erased {ids : List Nat} {os : List (Nat × Obj)} {i : Nat} {o : Obj} (h : find (eraseAll ids os) i = some o) : i ∉ ids ∧ find os i = some o:=by
 rw [y94q] at h
 by_cases hi : i ∈ ids
 ·rw [if_pos hi] at h; cases h
 ·rw [if_neg hi] at h; exact ⟨hi,h⟩
theorem eraseAll_left : ∀ (ids : List Nat) {l l' : List (Nat × Obj)},(∀ i ∈ ids,find l i ≠ none → find l' i = none) → ∀ i,find (eraseAll ids l ++ l') i = if i ∈ ids ∧ find l i ≠ none then none else find (l ++ l') i:=by
 intro ids l l' h i
 rw [y29q,y94q,y29q]
 by_cases hi : i ∈ ids
 ·rw [if_pos hi]
  cases hl : find l i with
  | none=>simp [hi]
  | some o=>simp [hi,h i hi (by rw [hl]; simp)]
 ·simp [hi]
theorem ObjsOk.keep {os os' : List (Nat × Obj)} (h : ObjsOk w0 G0 m os) (hf : ∀ i o,find os' i = some o → find os i = some o) : ObjsOk w0 G0 m os':=by
 have hb : ∀ i b,blk os' m i b → blk os m i b:=fun i b hb=>by
  unfold blk at hb ⊢
  cases ho : find os' i with
  | none=>rw [ho] at hb; exact hb.elim
  | some o=>rw [hf i o ho]; rw [ho] at hb; exact hb
 exact ⟨h.base,fun i o ho=>h.objs i o (hf i o ho),fun i j b h1 h2=>h.inj i j b (hb i b h1) (hb j b h2),fun i b h1=>h.out i b (hb i b h1),h.liveG,h.liveH,h.subG,h.gh⟩
theorem find_eraseLeft {l l' : List (Nat × Obj)} (hd : ∀ i o,find l i = some o → find l' i = none) (ids : List Nat) (i : Nat) (o : Obj) (h : find (eraseAll ids l ++ l') i = some o) : find (l ++ l') i = some o:=by
 rw [y29q,y94q] at h
 rw [y29q]
 by_cases hi : i ∈ ids
 ·rw [if_pos hi] at h
  cases hl : find l i with
  | none=>exact h
  | some p=>rw [hd i p hl] at h; cases h
 ·rw [if_neg hi] at h; exact h
theorem Rel.eraseAll (h : Rel w0 G0 N F m e tm) (ids : List Nat) : Rel w0 G0 N F m ⟨e.slots,eraseAll ids e.objs,e.next⟩ tm :=
 ⟨h.ok.keep (find_eraseLeft h.disj ids),fun i o ho=>h.disj i o (erased ho).2,h.tms,h.slots⟩
theorem Rel.apart (h : Rel w0 G0 N F m e tm) {ids : List Nat} {i b : Nat} (hi : i ∈ ids) (hb : blk e.objs m i b) (j : Nat) : ¬ blk (Ev.eraseAll ids e.objs ++ F) m j b:=by
 intro hj
 have hi' : blk (e.objs ++ F) m i b:=y38q hb
 have hj' : blk (e.objs ++ F) m j b:=by
  unfold blk at hj ⊢
  cases ho : find (Ev.eraseAll ids e.objs ++ F) j with
  | none=>rw [ho] at hj; exact hj.elim
  | some o=>rw [find_eraseLeft h.disj ids j o ho]; rw [ho] at hj; exact hj
 have:=h.ok.inj i j b hi' hj'
 subst this
 have hne : ∃ o,find e.objs i = some o:=by
  unfold blk at hb
  cases ho : find e.objs i with
  | none=>rw [ho] at hb; exact hb.elim
  | some o=>exact ⟨o,rfl⟩
 obtain ⟨o,ho⟩:=hne
 unfold blk at hj
 rw [y29q,y94q,if_pos hi,h.disj i o ho] at hj
 exact hj
theorem Rel.mine (h : Rel w0 G0 N F m e tm) {i b : Nat} (hb : blk e.objs m i b) : ¬ m.G b ∧ ¬ m.H b ∧ b < m.w.heap.size ∧ Mine w0 b:=h.ok.out i b (y38q hb)
end
end Go.Ev
end
section
namespace Go.Ev
open Go.RowKit (Below)
theorem blt_false {n k : Nat} (h : Nat.blt n k = false) : k ≤ n:=by
 rcases Nat.lt_or_ge n k with g | g
 ·have : Nat.blt n k = true:=by rw [Nat.blt_eq]; exact g
  rw [this] at h; cases h
 ·exact g
theorem blt_true {n k : Nat} (h : Nat.blt n k = true) : n < k:=by rw [Nat.blt_eq] at h; exact h
def Mix (bl bl0 bl' : List Nat) : Prop:=(∀ b ∈ bl',b ∈ bl ∨ b ∈ bl0) ∧ (bl.Nodup → bl0.Nodup → (∀ b ∈ bl,b ∉ bl0) → bl'.Nodup)
theorem Mix.left {b1 b2 bl0 b1' : List Nat} (h : Mix b1 bl0 b1') : Mix (b1 ++ b2) bl0 (b1' ++ b2):=by
 refine ⟨fun b hb=>?_,fun h1 h2 h3=>?_⟩
 ·rcases List.mem_append.1 hb with hb | hb
  ·exact (h.1 b hb).imp (List.mem_append_left _) id
  ·exact .inl (List.mem_append_right _ hb)
 ·have hn:=List.nodup_append.1 h1
  refine List.nodup_append.2 ⟨h.2 hn.1 h2 fun b hb=>h3 b (List.mem_append_left _ hb),hn.2.1,fun p hp q hq e=>?_⟩
  subst e
  rcases h.1 p hp with hp | hp
  ·exact hn.2.2 p hp p hq rfl
  ·exact h3 p (List.mem_append_right _ hq) hp
theorem Mix.right {b1 b2 bl0 b2' : List Nat} (h : Mix b2 bl0 b2') : Mix (b1 ++ b2) bl0 (b1 ++ b2'):=by
 refine ⟨fun b hb=>?_,fun h1 h2 h3=>?_⟩
 ·rcases List.mem_append.1 hb with hb | hb
  ·exact .inl (List.mem_append_left _ hb)
  ·exact (h.1 b hb).imp (List.mem_append_right _) id
 ·have hn:=List.nodup_append.1 h1
  refine List.nodup_append.2 ⟨hn.1,h.2 hn.2.1 h2 fun b hb=>h3 b (List.mem_append_right _ hb),fun p hp q hq e=>?_⟩
  subst e
  rcases h.1 p hq with hq | hq
  ·exact hn.2.2 p hp p hq rfl
  ·exact h3 p (List.mem_append_left _ hp) hq
theorem Mix.all (bl bl0 : List Nat) : Mix bl bl0 bl0:=⟨fun b hb=>.inr hb,fun _ h _=>h⟩
def LO (w : World) (G : Nat → Prop) (vs : List Value) (bl0 : List Nat) (t : Ty) (n : Nat) (z : t.den) (cs : List Value) (bl : List Nat) : Prop :=
 n + vs.length ≤ cs.length ∧ Val w G t z (cs.take n ++ vs ++ cs.drop (n + vs.length)) ∧ ∃ bl',Inn w G t z (cs.take n ++ vs ++ cs.drop (n + vs.length)) bl' ∧ Mix bl bl0 bl'
theorem LO.left {w : World} {G : Nat → Prop} {vs : List Value} {bl0 : List Nat} {a b : Ty} {n : Nat} {z1 : a.den} {x2 : b.den} {c1 c2 : List Value} {b1 b2 : List Nat} (h : LO w G vs bl0 a n z1 c1 b1) (h2 : Val w G b x2 c2) (i2 : Inn w G b x2 c2 b2) :
  LO w G vs bl0 (.pair a b) n (z1,x2) (c1 ++ c2) (b1 ++ b2):=by
 obtain ⟨g1,g2,bl',g3,g4⟩:=h
 unfold LO
 rw [splice_left g1]
 exact ⟨by simp; omega,⟨_,_,rfl,g2,h2⟩,_,⟨_,_,bl',b2,rfl,g2.length,rfl,g3,i2⟩,g4.left⟩
theorem LO.right {w : World} {G : Nat → Prop} {vs : List Value} {bl0 : List Nat} {a b : Ty} {n : Nat} {x1 : a.den} {z2 : b.den} {c1 c2 : List Value} {b1 b2 : List Nat} (hn : a.size ≤ n) (h1 : Val w G a x1 c1) (i1 : Inn w G a x1 c1 b1) (h : LO w G vs bl0 b (n - a.size) z2 c2 b2) :
  LO w G vs bl0 (.pair a b) n (x1,z2) (c1 ++ c2) (b1 ++ b2):=by
 obtain ⟨g1,g2,bl',g3,g4⟩:=h
 have hl1 : c1.length = a.size:=h1.length
 unfold LO
 rw [splice_right (by omega),hl1]
 exact ⟨by simp; omega,⟨_,_,rfl,h1,g2⟩,_,⟨_,_,b1,bl',rfl,hl1,rfl,i1,g3⟩,g4.right⟩
theorem setL_own {w : World} {G : Nat → Prop} {u : Ty} {y : u.den} {vs : List Value} (hy : Val w G u y vs) {bl0 : List Nat} (hi0 : Inn w G u y vs bl0) : ∀ (t : Ty) (x : t.den) (n : Nat) (z : t.den) (cs : List Value) (bl : List Nat),setL u y t x n = some z → Val w G t x cs → Inn w G t x cs bl → LO w G vs bl0 t n z cs bl:=by
 have whole : ∀ (t : Ty) (x : t.den) (z : t.den) (cs : List Value) (bl : List Nat),cast? u t y = some z → Val w G t x cs → LO w G vs bl0 t 0 z cs bl:=by
  intro t x z cs bl h hx
  obtain ⟨e,h⟩:=cast?_some h
  subst e; subst h
  have e1 : cs.take 0 ++ vs ++ cs.drop (0 + vs.length) = vs:=by
   rw [List.drop_of_length_le (by rw [hx.length,hy.length]; omega)]
   simp
  unfold LO
  rw [e1]
  exact ⟨by rw [hx.length,hy.length]; omega,hy,bl0,hi0, .all _ _⟩
 have leaf : ∀ (t : Ty) (x : t.den) (n : Nat) (z : t.den) (cs : List Value) (bl : List Nat),(∀ a b,t ≠ .pair a b) → setL u y t x n = some z → Val w G t x cs → LO w G vs bl0 t n z cs bl:=by
  intro t x n z cs bl hp h hx
  cases n with
  | zero=>exact whole t x z cs bl (by cases t <;> first | exact absurd rfl (hp _ _) | exact h) hx
  | succ n=>cases t <;> first | exact absurd rfl (hp _ _) | simp [setL] at h
 intro t
 induction t with
 | pair a b iha ihb =>
  intro x n z cs bl h hx hi
  obtain ⟨c1,c2,rfl,h1,h2⟩:=id hx
  obtain ⟨d1,d2,b1,b2,e1,e2,rfl,i1,i2⟩:=hi
  obtain ⟨rfl,rfl⟩:=List.append_inj e1 (by rw [h1.length,e2])
  have go : (match Nat.blt n a.size with
    | true=>match setL u y a x.1 n with
     | some z=>some (z,x.2)
     | none=>none
    | false=>match setL u y b x.2 (n - a.size) with
     | some z=>some (x.1,z)
     | none=>none) = some z → LO w G vs bl0 (.pair a b) n z (c1 ++ c2) (b1 ++ b2):=by
   intro h
   cases hb : Nat.blt n a.size with
   | true =>
    rw [hb] at h
    simp only at h
    cases hs : setL u y a x.1 n with
    | none=>simp [hs] at h
    | some z1 =>
     simp only [hs,Option.some.injEq] at h
     subst h
     exact (iha x.1 n z1 c1 b1 hs h1 i1).left h2 i2
   | false =>
    rw [hb] at h
    simp only at h
    cases hs : setL u y b x.2 (n - a.size) with
    | none=>simp [hs] at h
    | some z1 =>
     simp only [hs,Option.some.injEq] at h
     subst h
     exact LO.right (blt_false hb) h1 i1 (ihb x.2 _ z1 c2 b2 hs h2 i2)
  simp only [setL] at h
  cases hn : Nat.beq n 0 with
  | true =>
   cases hc : cast? u (.pair a b) y with
   | some z' =>
    simp only [hn,hc,Option.some.injEq] at h
    subst h
    have:=Nat.eq_of_beq_eq_true hn
    subst this
    exact whole _ x z' _ _ hc hx
   | none=>simp only [hn,hc] at h; exact go h
  | false=>simp only [hn] at h; exact go h
 | _=>exact fun x n z cs bl h hx hi=>leaf _ x n z cs bl (fun _ _=>by simp) h hx
theorem setP_own {w : World} {G : Nat → Prop} {T : Nat} {u : Ty} : ∀ (t : Ty) (x : t.den) (n : Nat) (cs : List Value) (bl : List Nat) (xs0 : List u.den),getP T u t x n = some xs0 → Val w G t x cs → Inn w G t x cs bl → bl.Nodup →
  ∃ v blp,cs[n]? = some v ∧ RowAt w G T u xs0 v ∧ RowIn w G u xs0 v blp ∧ (∀ b ∈ blp,b ∈ bl) ∧ blp.Nodup ∧ ownAt t n = true ∧
   ∀ (ys : List u.den) (z : t.den),setP T u ys t x n = some z → ∀ (w' : World) (G' : Nat → Prop),(∀ b,G b → G' b ∧ w'.heap[b]? = w.heap[b]?) → (∀ b ∈ bl,b ∉ blp → w'.heap[b]? = w.heap[b]?) → ∀ bl0,RowAt w' G' T u ys v → RowIn w' G' u ys v bl0 →
    Val w' G' t z cs ∧ ∃ bl',Inn w' G' t z cs bl' ∧ (∀ b ∈ bl',(b ∈ bl ∧ b ∉ blp) ∨ b ∈ bl0) ∧ (bl0.Nodup → (∀ b ∈ bl,b ∉ blp → b ∉ bl0) → bl'.Nodup):=by
 intro t
 induction t with
 | pair a b iha ihb =>
  intro x n cs bl xs0 hg ⟨c1,c2,e,h1,h2⟩ ⟨d1,d2,b1,b2,e1,e2,e3,i1,i2⟩ hnd
  subst e; subst e3
  obtain ⟨rfl,rfl⟩:=List.append_inj e1 (by rw [h1.length,e2])
  have hn:=List.nodup_append.1 hnd
  simp only [getP] at hg
  simp only [ownAt]
  cases hb : Nat.blt n a.size with
  | true =>
   rw [hb] at hg
   simp only at hg
   obtain ⟨v,blp,k1,k2,k3,k4,k5,k6,k7⟩:=iha x.1 n c1 b1 xs0 hg h1 i1 hn.1
   refine ⟨v,blp,by rw [List.getElem?_append_left (by rw [h1.length]; exact blt_true hb)]; exact k1,k2,k3,fun b hb=>List.mem_append_left _ (k4 b hb),k5,k6,fun ys z h w' G' hG hbl bl0 r1 r2=>?_⟩
   simp only [setP,hb] at h
   cases hs : setP T u ys a x.1 n with
   | none=>simp [hs] at h
   | some z1 =>
    simp only [hs,Option.some.injEq] at h
    subst h
    obtain ⟨v1,bl',v2,v3,v4⟩:=k7 ys z1 hs w' G' hG (fun b hb=>hbl b (List.mem_append_left _ hb)) bl0 r1 r2
    have hb2 : ∀ p ∈ b2,p ∉ blp:=fun p hp hq=>hn.2.2 p (k4 p hq) p hp rfl
    refine ⟨⟨c1,c2,rfl,v1,Val.mono hG _ _ _ h2⟩,bl' ++ b2,⟨c1,c2,bl',b2,rfl,e2,rfl,v2,Inn.mono hG _ _ _ _ (fun p hp=>hbl p (List.mem_append_right _ hp) (hb2 p hp)) i2⟩,fun p hp=>?_,fun n1 n2=>?_⟩
    ·rcases List.mem_append.1 hp with hp | hp
     ·exact (v3 p hp).imp (fun h=>⟨List.mem_append_left _ h.1,h.2⟩) id
     ·exact .inl ⟨List.mem_append_right _ hp,hb2 p hp⟩
    ·refine List.nodup_append.2 ⟨v4 n1 fun p hp hq=>n2 p (List.mem_append_left _ hp) hq,hn.2.1,fun p hp q hq e=>?_⟩
     subst e
     rcases v3 p hp with ⟨k,_⟩ | k
     ·exact hn.2.2 p k p hq rfl
     ·exact n2 p (List.mem_append_right _ hq) (hb2 p hq) k
  | false =>
   rw [hb] at hg
   simp only at hg
   have hge:=blt_false hb
   obtain ⟨v,blp,k1,k2,k3,k4,k5,k6,k7⟩:=ihb x.2 _ c2 b2 xs0 hg h2 i2 hn.2.1
   refine ⟨v,blp,by rw [List.getElem?_append_right (by rw [h1.length]; exact hge),h1.length]; exact k1,k2,k3,fun b hb=>List.mem_append_right _ (k4 b hb),k5,k6,fun ys z h w' G' hG hbl bl0 r1 r2=>?_⟩
   simp only [setP,hb] at h
   cases hs : setP T u ys b x.2 (n - a.size) with
   | none=>simp [hs] at h
   | some z1 =>
    simp only [hs,Option.some.injEq] at h
    subst h
    obtain ⟨v1,bl',v2,v3,v4⟩:=k7 ys z1 hs w' G' hG (fun b hb=>hbl b (List.mem_append_right _ hb)) bl0 r1 r2
    have hb1 : ∀ p ∈ b1,p ∉ blp:=fun p hp hq=>hn.2.2 p hp p (k4 p hq) rfl
    refine ⟨⟨c1,c2,rfl,Val.mono hG _ _ _ h1,v1⟩,b1 ++ bl',⟨c1,c2,b1,bl',rfl,e2,rfl,Inn.mono hG _ _ _ _ (fun p hp=>hbl p (List.mem_append_left _ hp) (hb1 p hp)) i1,v2⟩,fun p hp=>?_,fun n1 n2=>?_⟩
    ·rcases List.mem_append.1 hp with hp | hp
     ·exact .inl ⟨List.mem_append_left _ hp,hb1 p hp⟩
     ·exact (v3 p hp).imp (fun h=>⟨List.mem_append_right _ h.1,h.2⟩) id
    ·refine List.nodup_append.2 ⟨hn.1,v4 n1 fun p hp hq=>n2 p (List.mem_append_right _ hp) hq,fun p hp q hq e=>?_⟩
     subst e
     rcases v3 p hq with ⟨k,_⟩ | k
     ·exact hn.2.2 p hp p k rfl
     ·exact n2 p (List.mem_append_left _ hp) (hb1 p hp) k
 | osl U t _ =>
  intro x n cs bl xs0 hg hx ⟨v,e,r1,r2⟩ hnd
  cases n with
  | succ=>simp [getP] at hg
  | zero =>
   simp only [getP] at hg
   cases hU : Nat.beq U T with
   | false=>simp [hU] at hg
   | true =>
    rw [hU] at hg
    have:=Nat.eq_of_beq_eq_true hU
    subst this
    obtain ⟨e1,hg⟩:=cast?_some hg
    cases e1
    subst hg
    subst e
    refine ⟨v,bl,rfl,r1,r2,fun _ h=>h,hnd,rfl,fun ys z h w' G' hG _ bl0 k1 k2=>?_⟩
    simp only [setP,hU] at h
    obtain ⟨_,h⟩:=cast?_some h
    subst h
    exact ⟨hx,bl0,⟨v,rfl,k1,k2⟩,fun b hb=>.inr hb,fun h _=>h⟩
 | _=>intro x n cs bl xs0 h; simp [getP] at h
theorem y51q : ∀ (l : List (List Nat)) (j : Nat) (x : List Nat) (p : Nat),p ∈ (l.set j x).flatten → p ∈ x ∨ ∃ k,k ≠ j ∧ k < l.length ∧ p ∈ l.getD k []
 | [],j,x,p,h=>by simp at h
 | a :: l,0,x,p,h=>by
  simp only [List.set_cons_zero,List.flatten_cons,List.mem_append] at h
  rcases h with h | h
  ·exact .inl h
  ·obtain ⟨q,hq,hp⟩:=List.mem_flatten.1 h
   obtain ⟨k,hk,rfl⟩:=List.mem_iff_getElem.1 hq
   exact .inr ⟨k + 1,by omega,by simpa using hk,by simpa [List.getD_eq_getElem?_getD,hk] using hp⟩
 | a :: l,j + 1,x,p,h=>by
  simp only [List.set_cons_succ,List.flatten_cons,List.mem_append] at h
  rcases h with h | h
  ·exact .inr ⟨0,by omega,by simp,by simpa using h⟩
  ·rcases y51q l j x p h with h | ⟨k,h1,h2,h3⟩
   ·exact .inl h
   ·exact .inr ⟨k + 1,by omega,by simpa using h2,by simpa using h3⟩
theorem y102q : ∀ (l : List (List Nat)) (j : Nat) (x : List Nat),l.flatten.Nodup → x.Nodup → (∀ p ∈ x,∀ k,k ≠ j → p ∉ l.getD k []) → (l.set j x).flatten.Nodup
 | [],j,x,_,_,_=>by simp
 | a :: l,0,x,h,hx,hd=>by
  simp only [List.set_cons_zero,List.flatten_cons] at h ⊢
  have hn:=List.nodup_append.1 h
  refine List.nodup_append.2 ⟨hx,hn.2.1,fun p hp q hq e=>?_⟩
  subst e
  obtain ⟨c,hc,hm⟩:=List.mem_flatten.1 hq
  obtain ⟨k,hk,rfl⟩:=List.mem_iff_getElem.1 hc
  exact hd p hp (k + 1) (by omega) (by simpa [List.getD_eq_getElem?_getD,hk] using hm)
 | a :: l,j + 1,x,h,hx,hd=>by
  simp only [List.set_cons_succ,List.flatten_cons] at h ⊢
  have hn:=List.nodup_append.1 h
  refine List.nodup_append.2 ⟨hn.1,y102q l j x hn.2.1 hx fun p hp k hk=>by simpa using hd p hp (k + 1) (by omega),fun p hp q hq e=>?_⟩
  subst e
  rcases y51q l j x p hq with hq | ⟨k,h1,h2,h3⟩
  ·exact hd p hq 0 (by omega) (by simpa using hp)
  ·exact hn.2.2 p hp p (y17q h3) rfl
theorem getD_apart : ∀ {l : List (List Nat)} {j k : Nat} {p : Nat},l.flatten.Nodup → p ∈ l.getD j [] → p ∈ l.getD k [] → j = k
 | [],j,k,p,_,h,_=>by simp at h
 | a :: l,0,0,p,_,_,_=>rfl
 | a :: l,0,k + 1,p,hn,h1,h2=>by
  simp only [List.flatten_cons] at hn
  exact absurd rfl ((List.nodup_append.1 hn).2.2 p (by simpa using h1) p (y17q (by simpa using h2)))
 | a :: l,j + 1,0,p,hn,h1,h2=>by
  simp only [List.flatten_cons] at hn
  exact absurd rfl ((List.nodup_append.1 hn).2.2 p (by simpa using h2) p (y17q (by simpa using h1)))
 | a :: l,j + 1,k + 1,p,hn,h1,h2=>by
  simp only [List.flatten_cons] at hn
  have:=getD_apart (List.nodup_append.1 hn).2.1 (show p ∈ l.getD j [] by simpa using h1) (show p ∈ l.getD k [] by simpa using h2)
  omega
theorem getD_nodup : ∀ {l : List (List Nat)} {j : Nat},l.flatten.Nodup → (l.getD j []).Nodup
 | [],j,_=>by simp
 | a :: l,0,h=>by simpa using (List.nodup_append.1 (by simpa only [List.flatten_cons] using h)).1
 | a :: l,j + 1,h=>by simpa using getD_nodup (j:=j) (List.nodup_append.1 (by simpa only [List.flatten_cons] using h)).2.1
theorem row_set {w w' : World} {G G' : Nat → Prop} {T b n c j : Nat} {t : Ty} {xs : List t.den} {z : t.den} {bls : List (List Nat)} {bl' : List Nat} {cs' cj : List Value}
  (hr : RowAt w G T t xs (.slice (some ⟨b,0,none⟩) n c)) (hi : ∀ k,k < xs.length → ∃ cs,CellsAt w b (k * t.size) cs ∧ cs.length = t.size ∧ Inn w G t (xs.getD k t.zero) cs (bls.getD k [])) (hbl : bls.length = xs.length)
  (hG : ∀ q,G q → G' q ∧ w'.heap[q]? = w.heap[q]?) (hk : ∀ k,k ≠ j → ∀ q ∈ bls.getD k [],w'.heap[q]? = w.heap[q]?)
  (hh : w'.heap[b]? = some (.cells cs'.toArray T (0,0))) (hlen : cs'.length = c * t.size) (hold : ∀ k d,k ≠ j → k < n → d.length = t.size → CellsAt w b (k * t.size) d → CellsAt w' b (k * t.size) d)
  (hj : j < n) (hcj : CellsAt w' b (j * t.size) cj) (hv : Val w' G' t z cj) (hin : Inn w' G' t z cj bl') :
  RowAt w' G' T t (xs.set j z) (.slice (some ⟨b,0,none⟩) n c) ∧ RowIn w' G' t (xs.set j z) (.slice (some ⟨b,0,none⟩) n c) (b :: (bls.set j bl').flatten):=by
 rcases hr with ⟨e,_⟩ | ⟨b',c2,cs,e,hp,h1,h2,h3,hx⟩
 ·simp at e
 ·simp only [Value.slice.injEq,Option.some.injEq,Addr.mk.injEq,and_true] at e
  obtain ⟨rfl,rfl,rfl⟩:=e
  have hgd : j < xs.length → (xs.set j z).getD j t.zero = z:=fun hj=>by
   simp [List.getD_eq_getElem?_getD,List.getElem?_set,hj]
  have hgo : ∀ j',j' ≠ j → (xs.set j z).getD j' t.zero = xs.getD j' t.zero:=fun j' hjj=>by
   simp [List.getD_eq_getElem?_getD,List.getElem?_set,Ne.symm hjj]
  have hbd : (bls.set j bl').getD j [] = bl':=by
   simp [List.getD_eq_getElem?_getD,List.getElem?_set,hbl,hj]
  have hbo : ∀ j',j' ≠ j → (bls.set j bl').getD j' [] = bls.getD j' []:=fun j' hjj=>by
   simp [List.getD_eq_getElem?_getD,List.getElem?_set,Ne.symm hjj]
  refine ⟨.inr ⟨b,c,cs',by simp,hh,by simpa using h1,h2,hlen,fun k hk'=>?_⟩, .inr ⟨b,rfl,bls.set j bl',rfl,by simpa using hbl,fun k hk'=>?_⟩⟩
  ·simp only [List.length_set] at hk'
   by_cases hkj : k = j
   ·subst hkj
    exact ⟨cj,hcj,by rw [hgd hk']; exact hv⟩
   ·obtain ⟨d,k1,k2⟩:=hx k hk'
    exact ⟨d,hold k d hkj hk' k2.length k1,by rw [hgo k hkj]; exact Val.mono hG _ _ _ k2⟩
  ·simp only [List.length_set] at hk'
   by_cases hkj : k = j
   ·subst hkj
    exact ⟨cj,hcj,hv.length,by rw [hgd hk',hbd]; exact hin⟩
   ·obtain ⟨d,k1,k2,k3⟩:=hi k hk'
    exact ⟨d,hold k d hkj hk' k2 k1,k2,by rw [hgo k hkj,hbo k hkj]; exact Inn.mono hG _ _ _ _ (hk k hkj) k3⟩
end Go.Ev
end
section
namespace Go.Ev
open Go.RowKit (Below)
section
variable {P : Program} {w0 : Base} {G0 : Nat → Prop} {N : Nat} {F : List (Nat × Obj)} {m : St} {e : Env} {tm : Array Value} {Γ : Tab} {ρ : Type} {os : List (Nat × Obj)}
theorem rel_part (h : Rel w0 G0 N F m e tm) (ids fl : List Nat) :
  ∃ m1,m.le m1 ∧ m1.w = m.w ∧ m1.D = m.D ∧ m1.β = m.β ∧ m1.ν = m.ν ∧ Rel w0 G0 N F m1 ⟨e.slots,freezeAll fl (eraseAll ids e.objs),e.next⟩ tm ∧
   Tk m1 e.objs (freezeAll fl (eraseAll ids e.objs)) true m1.G ∧ (∀ i b,i ∈ ids → blk e.objs m1 i b → (¬ m1.G b ∧ ¬ m1.H b ∧ b < m1.w.heap.size ∧ Mine w0 b) ∧ ∀ j,¬ blk (freezeAll fl (eraseAll ids e.objs) ++ F) m1 j b):=by
 have h1:=h.eraseAll ids
 obtain ⟨m1,hf,hR⟩:=h1.freezeX fl
 have hob : ∀ i o,find e.objs i = some o → Ob m1 i o:=fun i o hi=>Ob.le hf.le (h.obj i o hi).1 (h.obj i o hi).2 e.objs hi fun b _=>by rw [hf.w]
 have hbk : ∀ i b,blk e.objs m1 i b ↔ blk e.objs m i b:=fun i b=>by rw [blk_le hf.le (fun i o hi=>h.obj i o hi)]
 refine ⟨m1,hf.le,hf.w,hf.D,hf.β,hf.ν,hR,⟨hob,fun i o hi=>(hR.obj i o hi).2,fun _ h=>h,fun h=>by simp at h,fun i j b h1 h2=>?_⟩,fun i b hi hb=>?_⟩
 ·exact h.ok.inj i j b (y38q ((hbk i b).1 h1)) (y38q ((hbk j b).1 h2))
 ·have hb':=(hbk i b).1 hb
  obtain ⟨q1,q2,q3,q4⟩:=h.mine hb'
  have hap:=h.apart hi hb'
  exact ⟨⟨fun hg=>(hf.G b hg).elim q1 fun ⟨j,hj⟩=>hap j hj,fun hg=>(hf.H b hg).elim q2 fun ⟨j,hj⟩=>hap j hj,by rw [hf.w]; exact q3,q4⟩,fun j hj=>hap j (hf.blk j b hj)⟩
theorem rowIn_inv {w : World} {G : Nat → Prop} {t : Ty} {xs : List t.den} {v : Value} {bl : List Nat} {b : Nat} (h : RowIn w G t xs v bl) (hb : v.ownBlock = some b) :
  ∃ bls : List (List Nat),bl = b :: bls.flatten ∧ bls.length = xs.length ∧ ∀ j,j < xs.length → ∃ cs,CellsAt w b (j * t.size) cs ∧ cs.length = t.size ∧ Inn w G t (xs.getD j t.zero) cs (bls.getD j []):=by
 rcases h with ⟨e,_⟩ | ⟨c,e,bls,e2,hl,hx⟩
 ·rw [hb] at e; cases e
 ·rw [hb] at e
  obtain rfl:=Option.some.inj e
  exact ⟨bls,e2,hl,hx⟩
theorem Rel.back (hR : Rel w0 G0 N F m e tm) {w' : World} {id T : Nat} {t : Ty} {xs : List t.den} {bl : List Nat} (hid : m.D id) (hF : find F id = none) (hfr : ¬ m.D e.next)
  (hbase : Kept w0 w') (hsz : m.w.heap.size ≤ w'.heap.size) (hG : ∀ b,m.G b → w'.heap[b]? = m.w.heap[b]?) (hH : ∀ b,m.H b → w'.heap[b]? = m.w.heap[b]?) (hb : ∀ i b,blk (e.objs ++ F) m i b → w'.heap[b]? = m.w.heap[b]?)
  (hr : RowAt w' m.G T t xs (m.ν id)) (hi : RowIn w' m.G t xs (m.ν id) bl) (hnd : bl.Nodup) (hbl : ∀ b ∈ bl,¬ m.G b ∧ ¬ m.H b ∧ b < w'.heap.size ∧ Mine w0 b ∧ ∀ i,¬ blk (e.objs ++ F) m i b) :
  ∃ m',m'.w = w' ∧ m.le m' ∧ (∀ i,m'.D i ↔ m.D i ∨ i = e.next) ∧ m'.G = m.G ∧ m'.H = m.H ∧ m'.β = m.β ∧ m'.ν = m.ν ∧ m'.σ e.next = bl ∧ Rel w0 G0 N F m' (e.back id (.row T t e.next xs)) tm:=by
 obtain ⟨f,hf⟩:=hi.hd
 let m' : St:={ m with w:=w',D:=fun i=>m.D i ∨ i = e.next,σ:=fun i=>if i = e.next then bl else m.σ i,hd:=fun i=>if i = e.next then f else m.hd i }
 have hle : m.le m':=⟨fun b hb=>⟨hb,hG b hb⟩,fun b hb=>⟨hb,hH b hb⟩,fun _ h=>.inl h,fun _ _=>rfl,fun _ _=>rfl,fun i hi=>if_neg (fun (q : i = e.next)=>hfr (q ▸ hi)),fun i hi=>if_neg (fun (q : i = e.next)=>hfr (q ▸ hi))⟩
 have hσ : m'.σ e.next = bl:=if_pos rfl
 have hhd : m'.hd e.next = f:=if_pos rfl
 have hok : ObjsOk w0 G0 m' ((id, .row T t e.next xs) :: (e.objs ++ F)):=by
  refine hR.ok.more hle (.inl hid) _ hbase hb (fun b hb=>⟨.inl hb,Nat.lt_of_lt_of_le (hR.ok.liveG b hb) hsz⟩) (fun b hb=>⟨.inl hb,Nat.lt_of_lt_of_le (hR.ok.liveH b hb) hsz⟩) hsz hR.ok.gh ?_ fun b hb=>?_
  ·show RowAt w' m.G T t xs (m.ν id) ∧ RowIn w' m.G t xs (m.ν id) (m'.σ e.next) ∧ (m'.σ e.next).Nodup ∧ HdOk w' (m'.hd e.next) t xs (m.ν id) ∧ m'.D e.next
   rw [hσ,hhd]
   exact ⟨hr,hi,hnd,hf, .inr rfl⟩
  ·unfold blk at hb
   rw [y14q,if_pos rfl] at hb
   simp only [hσ] at hb
   exact hbl b hb
 refine ⟨m',rfl,hle,fun _=>Iff.rfl,rfl,rfl,rfl,rfl,hσ,hok,fun i o ho=>?_,hR.tms,fun t sv ht=>?_⟩
 ·have ho : find ((id,Obj.row T t e.next xs) :: e.objs) i = some o:=ho
  rw [y14q] at ho
  by_cases h : id = i
  ·subst h; exact hF
  ·rw [if_neg h] at ho; exact hR.disj i o ho
 ·obtain ⟨v,hv,hs⟩:=hR.slots t sv ht
  exact ⟨v,hv,hs.le hle⟩
theorem ownStore_sound (hΓ : TabOk P Γ) (hR : Rel w0 G0 N F m e tm) (hfr : Fr m e) {T : Nat} {x : V} {s : SV} {xv v : Value} {e' : Env} (h : ownStore Γ T x s e = some e') (hx : Lv m x xv) (hs : Sv m s v) :
  ∃ m',(Instr.storeAt T xv v).run P m.w = .ok () m'.w ∧ Stp m e m' e' ∧ Rel w0 G0 N F m' e' tm:=by
 unfold ownStore at h
 cases hf : find Γ T with
 | none=>simp [hf] at h
 | some ti =>
  simp only [hf] at h
  have hT:=hΓ T ti hf
  cases hno : ti.ty.noOwn with
  | true=>simp [hno] at h
  | false =>
   simp only [hno] at h
   cases x with
   | rel id sz j off =>
    simp only at h
    cases ho : e.obj id with
    | none=>simp [ho] at h
    | some o =>
     cases o with
     | row U t n xs =>
      simp only [ho] at h
      cases hc : (Nat.beq sz t.size && nodupN (id :: idsT ti.ty s.cells) && Nat.ble (off + ti.ty.size) t.size) with
      | false=>simp [hc] at h
      | true =>
       simp only [hc] at h
       simp only [Bool.and_eq_true] at hc
       obtain ⟨⟨hsz,hnd⟩,hfit⟩:=hc
       have hsz:=Nat.eq_of_beq_eq_true hsz
       subst hsz
       have hnd:=y82q _ hnd
       have hfit:=Nat.le_of_ble_eq_true hfit
       generalize hov : freezeAll (rowIds s.cells) (eraseAll (id :: idsT ti.ty s.cells) e.objs) = ov at h
       cases hy : takeSV true e.objs ov ti.ty s with
       | none=>simp [hy] at h
       | some y =>
        simp only [hy] at h
        generalize hgx : xs.getD j t.zero = x0 at h
        cases hz : setL ti.ty y t x0 off with
        | none=>simp [hz] at h
        | some z =>
         simp only [hz,Option.some.injEq] at h
         subst h
         obtain ⟨hid,b,k,c,hν,hj,rfl⟩:=hx
         obtain ⟨m1,hl1,hw1,hD1,hβ1,hν1,hR1,hk,hap⟩:=rel_part hR (id :: idsT ti.ty s.cells) (rowIds s.cells)
         rw [hov] at hR1 hk hap
         obtain ⟨vs,hAs,hvy,bl0,hiy,hn0,hb0⟩:=y83q hk (List.nodup_cons.1 hnd).2 hy (hs.le hl1)
         have hvc : v.cells = vs.toArray:=by
          unfold AsVal at hAs
          cases hg : ti.ty.isAgg with
          | true=>rw [hg] at hAs; rw [hAs]; rfl
          | false =>
           rw [hg] at hAs
           simp only at hAs
           subst hAs
           cases s with
           | one q=>exact (Lv.oneCell hs).2
           | agg q=>simp [takeSV,hg] at hy
           | tup q=>simp [takeSV] at hy
         have hvl : vs.length = ti.ty.size:=hvy.length
         have hv1 : ∀ u ∈ vs,u.oneCell' = true:=Val.oneCells (m:=m1) hvy
         obtain ⟨g1,g2,g3,g4,g5⟩:=hk.ho id _ ho
         have hν' : m1.ν id = .slice (some ⟨b,0,none⟩) k c:=by rw [hν1]; exact hν
         rw [hν'] at g1 g2 g4
         obtain ⟨bls,hσ,hbl,hel⟩:=rowIn_inv (b:=b) g2 rfl
         have g1':=g1
         rcases g1' with ⟨e2,_⟩ | ⟨b',c',cs,e2,hh,h2,h3,h4,hxx⟩
         ·simp at e2
         simp only [Value.slice.injEq,Option.some.injEq,Addr.mk.injEq,and_true] at e2
         obtain ⟨rfl,rfl,rfl⟩:=e2
         have hbk : ∀ p,p ∈ m1.σ n → blk e.objs m1 id p:=fun p hp=>by
          have ho' : find e.objs id = some (.row U t n xs):=ho
          unfold blk; rw [ho']; exact hp
         have hbin : b ∈ m1.σ n:=by rw [hσ]; exact List.mem_cons_self
         have hidm : id ∈ id :: idsT ti.ty s.cells:=List.mem_cons_self
         obtain ⟨⟨nG,nH,_,hmine⟩,hrest⟩:=hap id b hidm (hbk b hbin)
         obtain ⟨cj,kc1,kc2,kc3⟩:=hel j hj
         obtain ⟨cj',kd1,kd2⟩:=hxx j hj
         have:=y23q kd1 kc1 (by rw [kd2.length,kc2])
         subst this
         rw [hgx] at kc3 kd2
         obtain ⟨lo1,lo2,bl',lo3,lo4⟩:=setL_own hvy hiy t x0 off z cj' (bls.getD j []) hz kd2 kc3
         have hin : j * t.size + off + vs.length ≤ cs.length:=by
          rw [h4]
          have : (j + 1) * t.size ≤ c * t.size:=Nat.mul_le_mul_right _ (by omega)
          rw [Nat.add_mul,Nat.one_mul] at this
          omega
         have hrun:=run_store' (P:=P) hT hh hvc hvl (o:=j * t.size + off) (by simpa using hin) hv1
         have hnew:=setRow_heap m1.w b _ (cs.toArray.toList.take (j * t.size + off) ++ vs ++ cs.toArray.toList.drop (j * t.size + off + vs.length)).toArray _ _ hh
         have hoth : ∀ q,q ≠ b → (m1.w.setRow b (cs.toArray.toList.take (j * t.size + off) ++ vs ++ cs.toArray.toList.drop (j * t.size + off + vs.length)).toArray).heap[q]? = m1.w.heap[q]?:=fun q hq=>setRow_other _ _ _ _ hq
         have hbase : Kept w0 (m1.w.setRow b (cs.toArray.toList.take (j * t.size + off) ++ vs ++ cs.toArray.toList.drop (j * t.size + off + vs.length)).toArray):=kept_setRow hR1.ok.base hmine _
         have hszw : (m1.w.setRow b (cs.toArray.toList.take (j * t.size + off) ++ vs ++ cs.toArray.toList.drop (j * t.size + off + vs.length)).toArray).heap.size = m1.w.heap.size:=by simp [World.setRow]
         have hsp:=y126q cs.toArray.toList vs (j * t.size + off) (by simpa using hin)
         have hgs:=fun i=>y113q cs.toArray.toList vs (j * t.size + off) (by simpa using hin) i
         generalize hcur : (cs.toArray.toList.take (j * t.size + off) ++ vs ++ cs.toArray.toList.drop (j * t.size + off + vs.length)) = cur at hrun hnew hoth hbase hszw hsp hgs
         generalize m1.w.setRow b cur.toArray = w2 at hrun hnew hoth hbase hszw
         have hcl : cj'.length = t.size:=kd2.length
         have cellJ : CellsAt w2 b (j * t.size) (cj'.take off ++ vs ++ cj'.drop (off + vs.length)):=by
          rw [y37q hnew]
          intro q u hq
          rw [y113q _ _ _ lo1] at hq
          rw [hgs]
          have hold:=(y37q hh _ _).1 kd1
          by_cases q1 : q < off
          ·rw [if_pos q1] at hq
           rw [if_pos (by omega)]
           exact hold q u hq
          ·rw [if_neg q1] at hq
           rw [if_neg (by omega)]
           by_cases q2 : q < off + vs.length
           ·rw [if_pos q2] at hq
            rw [if_pos (by omega)]
            have : j * t.size + q - (j * t.size + off) = q - off:=by omega
            rw [this]; exact hq
           ·rw [if_neg q2] at hq
            rw [if_neg (by omega)]
            exact hold q u hq
         have cellO : ∀ k d,k ≠ j → k < xs.length → d.length = t.size → CellsAt m1.w b (k * t.size) d → CellsAt w2 b (k * t.size) d:=by
          intro j' d hjj _ hlen' hcj'
          rw [y37q hnew]
          intro q u hq
          have hq' : q < t.size:=by
           have:=(List.getElem?_eq_some_iff.1 hq).1
           omega
          rw [hgs]
          have hold:=(y37q hh _ _).1 hcj' q u hq
          by_cases hlt : j' < j
          ·have : (j' + 1) * t.size ≤ j * t.size:=Nat.mul_le_mul_right _ hlt
           rw [Nat.add_mul,Nat.one_mul] at this
           rw [if_pos (by omega)]
           exact hold
          ·have : (j + 1) * t.size ≤ j' * t.size:=Nat.mul_le_mul_right _ (by omega)
           rw [Nat.add_mul,Nat.one_mul] at this
           rw [if_neg (by omega),if_neg (by omega)]
           exact hold
         have hnd2 : (b :: bls.flatten).Nodup:=by rw [← hσ]; exact g3
         have hbnot : ∀ k,b ∉ bls.getD k []:=fun k hk=>(List.nodup_cons.1 hnd2).1 (y17q hk)
         have hb0b : b ∉ bl0:=fun hm=>by
          obtain ⟨i,hi,hbi⟩:=hb0 b hm
          have:=hk.inj i id b hbi (hbk b hbin)
          subst this
          exact (List.nodup_cons.1 hnd).1 hi
         have hb0bl : ∀ p ∈ bl0,∀ k,p ∉ bls.getD k []:=fun p hp k hk'=>by
          obtain ⟨i,hi,hbi⟩:=hb0 p hp
          have:=hk.inj i id p hbi (hbk p (by rw [hσ]; exact List.mem_cons_of_mem _ (y17q hk')))
          subst this
          exact (List.nodup_cons.1 hnd).1 hi
         have hGsame : ∀ q,m1.G q → m1.G q ∧ w2.heap[q]? = m1.w.heap[q]?:=fun q hq=>⟨hq,hoth q fun e=>nG (e ▸ hq)⟩
         have hbl'b : b ∉ bl':=fun hm=>(lo4.1 b hm).elim (hbnot j) hb0b
         obtain ⟨r1,r2⟩:=row_set (w':=w2) (G':=m1.G) (cs':=cur) (z:=z) (bl':=bl') g1 hel hbl hGsame (fun k _ q hq=>hoth q fun e=>hbnot k (e ▸ hq)) hnew (by rw [hsp]; simpa using h4) cellO hj cellJ
          (Val.mono hGsame _ _ _ lo2) (Inn.mono hGsame _ _ _ _ (fun q hq=>hoth q fun e=>hbl'b (e ▸ hq)) lo3)
         have hbl'nd : bl'.Nodup:=lo4.2 (getD_nodup (List.nodup_cons.1 hnd2).2) hn0 fun p hp hq=>hb0bl p hq j hp
         have hnew2 : (b :: (bls.set j bl').flatten).Nodup:=by
          refine List.nodup_cons.2 ⟨fun hm=>?_,y102q bls j bl' (List.nodup_cons.1 hnd2).2 hbl'nd fun p hp k hkj hk'=>?_⟩
          ·rcases y51q bls j bl' b hm with hm | ⟨k,_,_,hm⟩
           ·exact hbl'b hm
           ·exact hbnot k hm
          ·rcases lo4.1 p hp with hp | hp
           ·exact hkj (getD_apart (List.nodup_cons.1 hnd2).2 hk' hp)
           ·exact hb0bl p hp k hk'
         have hall : ∀ p ∈ b :: (bls.set j bl').flatten,∃ i,i ∈ id :: idsT ti.ty s.cells ∧ blk e.objs m1 i p:=by
          intro p hp
          have inσ : ∀ k,p ∈ bls.getD k [] → ∃ i,i ∈ id :: idsT ti.ty s.cells ∧ blk e.objs m1 i p:=fun k hk'=>⟨id,hidm,hbk p (by rw [hσ]; exact List.mem_cons_of_mem _ (y17q hk'))⟩
          rcases List.mem_cons.1 hp with hp | hp
          ·subst hp; exact ⟨id,hidm,hbk _ hbin⟩
          ·rcases y51q bls j bl' p hp with hp | ⟨k,_,_,hp⟩
           ·rcases lo4.1 p hp with hp | hp
            ·exact inσ j hp
            ·obtain ⟨i,hi,hbi⟩:=hb0 p hp
             exact ⟨i,List.mem_cons_of_mem _ hi,hbi⟩
           ·exact inσ k hp
         have hfr1 : ¬ m1.D e.next:=by rw [hD1]; exact hfr.one
         obtain ⟨m',kw,kle,kD,_,_,_,_,_,kR⟩:=hR1.back (w':=w2) (id:=id) (T:=U) (t:=t) (xs:=xs.set j z) (bl:=b :: (bls.set j bl').flatten) (by rw [hD1]; exact hid) (hR.disj id _ ho) hfr1 hbase (by omega) (fun q hq=>(hGsame q hq).2) (fun q hq=>hoth q fun e=>nH (e ▸ hq))
          (fun i q hq=>hoth q fun e=>hrest i (e ▸ hq)) (by rw [hν']; exact r1) (by rw [hν']; exact r2) hnew2 (fun p hp=>by
           obtain ⟨i,hi,hbi⟩:=hall p hp
           obtain ⟨⟨o1,o2,o3,o4⟩,o5⟩:=hap i p hi hbi
           exact ⟨o1,o2,by omega,o4,o5⟩)
         refine ⟨m', ?_,⟨hl1.trans kle,fun i hi=>?_,Nat.le_succ _, ?_,rfl⟩,kR⟩
         ·rw [← hw1,hrun,kw]
         ·rcases (kD i).1 hi with hi | hi
          ·exact .inl (by rw [← hD1]; exact hi)
          ·exact .inr ⟨by rw [hi]; exact Nat.le_refl _,by rw [hi]; exact Nat.lt_succ_self _⟩
         ·show e.next + 1 ≤ e.next + nmW
          unfold nmW; omega
     | _=>simp [ho] at h
   | _=>simp at h
end
end Go.Ev
end
section
namespace Go.Ev
open Go.RowKit (Below)
theorem asVal_cells {m : St} {t : Ty} {x : t.den} {cs : List Value} {v : Value} (h : Val m.w m.G t x cs) (ha : AsVal t cs v) : v.cells = cs.toArray:=by
 unfold AsVal at ha
 cases hg : t.isAgg with
 | true=>simp only [hg] at ha; subst ha; rfl
 | false =>
  simp only [hg] at ha
  subst ha
  have he:=Val.enc (m:=m) h
  cases hE : enc t x [] with
  | nil=>rw [hE] at he; exact absurd he (by simp [R2])
  | cons a l=>rw [hE] at he; exact he.1.oneCell.2
theorem flatMap_piece {sz : Nat} : ∀ (vs : List Value),(∀ v ∈ vs,v.cells.size = sz) → ∀ j v,vs[j]? = some v → (((vs.flatMap fun v=>v.cells.toList).drop (j * sz)).take sz) = v.cells.toList
 | [],_,j,v,h=>by simp at h
 | u :: vs,hv,0,v,h=>by
  simp only [List.getElem?_cons_zero,Option.some.injEq] at h
  subst h
  have:=hv u List.mem_cons_self
  rw [List.flatMap_cons,Nat.zero_mul,List.drop_zero,List.take_append_of_le_length (by simp [this]),List.take_of_length_le (by simp [this])]
 | u :: vs,hv,j + 1,v,h=>by
  have:=hv u List.mem_cons_self
  have e : (j + 1) * sz = u.cells.toList.length + j * sz:=by rw [Array.length_toList,this,Nat.add_mul,Nat.one_mul,Nat.add_comm]
  rw [List.flatMap_cons,e,← List.drop_drop,List.drop_left]
  exact flatMap_piece vs (fun v h=>hv v (List.mem_cons_of_mem _ h)) j v (by simpa using h)
section
variable {P : Program} {w0 : Base} {G0 : Nat → Prop} {N : Nat} {F : List (Nat × Obj)} {m : St} {e : Env} {a : Act} {Γ : Tab} {ρ : Type} {os : List (Nat × Obj)}
theorem elems_sound {t : Ty} {e1 : Env} {os : List (Nat × Obj)} (hk : Tk m os e1.objs true m.G) (hR : Rel w0 G0 N F m e1 a.tmps) : ∀ (l : List (Nat × Operand)) (n : Nat) (xs : List t.den),evElems t os e1 n l = some xs → (y120q t e1 l).Nodup →
  ∃ vs : List Value,(l.map fun x=>(x.1,a.eval x.2)) = (vs.zipIdx n).map (fun x=>(x.2,x.1)) ∧ vs.length = xs.length ∧ l.length = xs.length ∧
   ∃ bls : List (List Nat),bls.length = xs.length ∧ bls.flatten.Nodup ∧ (∀ b ∈ bls.flatten,∃ i ∈ y120q t e1 l,blk os m i b) ∧
   ∀ j,j < xs.length → ∃ cs v,vs[j]? = some v ∧ v.cells = cs.toArray ∧ Val m.w m.G t (xs.getD j t.zero) cs ∧ Inn m.w m.G t (xs.getD j t.zero) cs (bls.getD j [])
 | [],n,xs,h,_=>by
  simp only [evElems,Option.some.injEq] at h
  subst h
  exact ⟨[],rfl,rfl,rfl,[],rfl,List.nodup_nil,fun b hb=>by simp at hb,fun j hj=>absurd hj (by simp)⟩
 | (i,o) :: r,n,xs,h,hn=>by
  simp only [evElems] at h
  simp only [y120q] at hn ⊢
  cases hi : Nat.beq i n with
  | false=>simp [hi] at h
  | true =>
   have hin:=Nat.eq_of_beq_eq_true hi
   subst hin
   simp only [hi] at h
   cases hv : e1.val o with
   | none=>simp [hv] at h
   | some s =>
    simp only [hv] at h hn ⊢
    cases hd : takeSV true os e1.objs t s with
    | none=>simp [hd] at h
    | some x =>
     cases hr : evElems t os e1 (i + 1) r with
     | none=>simp [hd,hr] at h
     | some l =>
      simp only [hd,hr,Option.some.injEq] at h
      subst h
      have hnd:=List.nodup_append.1 hn
      obtain ⟨vs,e1',e2,e2',bls,f1,f2,f3,e3⟩:=elems_sound hk hR r (i + 1) l hr hnd.2.1
      obtain ⟨cs,has,hval,bl,k1,k2,k3⟩:=y83q hk hnd.1 hd (y145q hR hv)
      have hcells : (a.eval o).cells = cs.toArray:=asVal_cells hval has
      refine ⟨a.eval o :: vs, ?_,by simp [e2],by simp [e2'],bl :: bls,by simp [f1], ?_,fun b hb=>?_,fun j hj=>?_⟩
      ·rw [List.map_cons,e1']
       rfl
      ·rw [List.flatten_cons]
       refine List.nodup_append.2 ⟨k2,f2,fun p hp q hq e=>?_⟩
       subst e
       obtain ⟨i1,h1,g1⟩:=k3 p hp
       obtain ⟨i2,h2,g2⟩:=f3 p hq
       exact hnd.2.2 i1 h1 i2 h2 (hk.inj i1 i2 p g1 g2)
      ·rw [List.flatten_cons] at hb
       rcases List.mem_append.1 hb with hb | hb
       ·obtain ⟨i1,h1,g1⟩:=k3 b hb
        exact ⟨i1,List.mem_append_left _ h1,g1⟩
       ·obtain ⟨i1,h1,g1⟩:=f3 b hb
        exact ⟨i1,List.mem_append_right _ h1,g1⟩
      ·cases j with
       | zero=>exact ⟨cs,_,rfl,hcells,by simpa using hval,by simpa using k1⟩
       | succ j =>
        obtain ⟨cs',v',h1,h2,h3,h4⟩:=e3 j (by simpa using hj)
        exact ⟨cs',v',by simpa using h1,h2,by simpa using h3,by simpa using h4⟩
theorem partOwn_slots {t : Ty} {e e1 : Env} (h : e1.slots = e.slots) : ∀ l,y120q t e1 l = y120q t e l
 | []=>rfl
 | (i,o) :: r=>by
  have hv : e1.val o = e.val o:=by cases o <;> simp [Env.val,Env.get,h]
  simp only [y120q,hv,partOwn_slots h r]
theorem buildSlice_sound (hΓ : TabOk P Γ) (hR : Rel w0 G0 N F m e a.tmps) {T : Nat} {ti tj : TI} (hf : find Γ T = some ti) (hu : P.underlying T = some (.slice ti.elem)) (hj : find Γ ti.elem = some tj) (hpos : 0 < tj.ty.size) (n : Nat) (parts : Array (Nat × Operand)) {xs : List tj.ty.den}
  (hnd : nodupN (y120q tj.ty e parts.toList) = true) (h : evElems tj.ty e.objs (partEnv tj.ty e parts.toList) 0 parts.toList = some xs) (hn : Nat.beq (lenN parts.toList) n = true) (hs : Nat.ble (n * tj.ty.size) 16777216 = true) (hfr : ¬ m.D e.next) :
  ∃ m' v,(Instr.buildSlice T n (parts.map fun (i,x)=>(i,a.eval x))).run P m.w = .ok v m'.w ∧ Stp m e m' ((partEnv tj.ty e parts.toList).new (.row ti.elem tj.ty e.next xs)) ∧ Rel w0 G0 N F m' ((partEnv tj.ty e parts.toList).new (.row ti.elem tj.ty e.next xs)) a.tmps ∧ Lv m' (.row e.next) v:=by
 obtain ⟨m1,l1,w1,hD1,_,_,hR1,hk,hap⟩:=rel_part hR (y120q tj.ty e parts.toList) (partIds e parts.toList)
 have hsl : y120q tj.ty (partEnv tj.ty e parts.toList) parts.toList = y120q tj.ty e parts.toList:=partOwn_slots (e:=e) (e1:=partEnv tj.ty e parts.toList) rfl _
 obtain ⟨vs,e1,e2,e2',bls,f1,f2,f3,e3⟩:=elems_sound (e1:=partEnv tj.ty e parts.toList) hk hR1 parts.toList 0 xs h (by rw [hsl]; exact y82q _ hnd)
 rw [hsl] at f3
 have hlen : xs.length = n:=by
  have:=Nat.eq_of_beq_eq_true hn
  rw [y125q] at this
  omega
 have hsm:=Nat.le_of_ble_eq_true hs
 have hE:=hΓ _ tj hj
 obtain ⟨i,z,cs,hi,hsz,hb,hz,hc,ha,hr⟩:=hE.info
 have hvs : ∀ v ∈ vs,v.cells.size = tj.ty.size:=by
  intro v hv
  obtain ⟨j,hj,rfl⟩:=List.mem_iff_getElem.1 hv
  obtain ⟨cs',v',h1,h2,h3,_⟩:=e3 j (by omega)
  rw [List.getElem?_eq_getElem hj,Option.some.injEq] at h1
  rw [h1,h2,List.size_toArray,h3.length]
 have hmap : (parts.map fun (i,x)=>(i,a.eval x)).toList = (vs.zipIdx 0).map fun x=>(x.2,x.1):=by
  rw [Array.toList_map,← e1]
 have hfl : (vs.flatMap fun v=>v.cells.toList).length = vs.length * tj.ty.size:=by
  clear e1 e2 e2' e3 hmap f1 f2 f3
  induction vs with
  | nil=>simp
  | cons v vs ih =>
   rw [List.flatMap_cons,List.length_append,ih fun u hu=>hvs u (List.mem_cons_of_mem _ hu),Array.length_toList,hvs v List.mem_cons_self,List.length_cons,Nat.add_mul,Nat.one_mul,Nat.add_comm]
 have hcl : cs.length = tj.ty.size:=by rw [← (hr m).length,zeros_length]
 have hzs : z.cells.size = tj.ty.size:=by rw [hc,List.size_toArray,hcl]
 have hrun : (Instr.buildSlice T n (parts.map fun (i,x)=>(i,a.eval x))).run P m1.w = .ok (.slice (some ⟨m1.w.heap.size,0,none⟩) n n) (m1.w.alloc (.cells (vs.flatMap fun v=>v.cells.toList).toArray ti.elem)):=by
  by_cases h0 : n = 0
  ·subst h0
   have : vs = []:=List.eq_nil_of_length_eq_zero (by omega)
   subst this
   have hp : (parts.map fun (i,x)=>(i,a.eval x)).toList = []:=by rw [hmap]; rfl
   have hp' : (parts.map fun (i,x)=>(i,a.eval x)) = #[]:=by
    apply Array.ext'
    rw [hp]
   rw [hp']
   simp [Instr.buildSlice,run_underlying hu,sizeOf,typeInfo,hi,newRow,Instr.fill,Array.range_zero']
  ·refine run_buildSlice m1.w T ti.elem n _ _ i z hu hi hz (by rw [hsz]; omega) (by rw [hsz]; intro h; rcases Nat.mul_eq_zero.1 h with h | h <;> omega) ?_
   rw [hmap,hsz]
   exact Great.fill_whole hpos vs _ hvs (by simp; rw [← hlen,e2])
 obtain ⟨m',hle,hw,hR',hv⟩:=hR1.freshRowX (T:=ti.elem) (t:=tj.ty) (xs:=xs) (cur:=vs.flatMap fun v=>v.cells.toList) (c:=n) (bls:=bls) (by omega) (by
  have : n * 1 ≤ n * tj.ty.size:=Nat.mul_le_mul_left _ hpos
  simp only [maxLen]; omega) (by rw [hfl,e2,hlen]) (by
  intro j hj
  obtain ⟨cs',v',h1,h2,h3,_⟩:=e3 j hj
  rw [flatMap_piece vs hvs j v' h1,h2]
  exact h3) (by
  intro j hj
  obtain ⟨cs',v',h1,h2,h3,h4⟩:=e3 j hj
  rw [flatMap_piece vs hvs j v' h1,h2]
  exact h4) f1 f2 (by
  intro b hb
  obtain ⟨i,hi,hbi⟩:=f3 b hb
  obtain ⟨⟨o1,o2,o3,o4⟩,o5⟩:=hap i b hi hbi
  exact ⟨o4,o3,o1,o2,o5⟩) (by rw [hD1]; exact hfr)
 refine ⟨m',_, ?_,⟨l1.trans hle.le,fun i hi=>?_,Nat.le_succ _,hle.most,rfl⟩,hR',hv⟩
 ·rw [← w1,hrun,hw,hlen]
 ·have:=hle.D i hi
  rw [hD1] at this
  exact this
theorem places_of : ∀ {fs : List Field} {ds ss : List Nat},y56q P fs ds ss = true → ∃ places : List (Nat × Nat),fs.mapM (fun f=>(P.info? f.type).map fun i=>(f.offset,i.size)) = some places ∧ ∀ i d s,nth ds i = some d → nth ss i = some s → places[i]? = some (d,s)
 | [],[],[],_=>⟨[],by simp,fun i d s h=>by cases i <;> simp [nth] at h⟩
 | f :: fs,d :: ds,s :: ss,h=>by
  simp only [y56q,Bool.and_eq_true] at h
  obtain ⟨⟨h1,h2⟩,h3⟩:=h
  obtain ⟨pl,e1,e2⟩:=places_of h3
  cases hj : P.info? f.type with
  | none=>simp [hj] at h2
  | some j =>
   simp only [hj,Bool.and_eq_true] at h2
   have ed:=Nat.eq_of_beq_eq_true h1
   have es:=Nat.eq_of_beq_eq_true h2.1
   subst ed; subst es
   refine ⟨(f.offset,j.size) :: pl,by simp [hj,e1],fun i d s g1 g2=>?_⟩
   cases i with
   | zero=>simp only [nth,Option.some.injEq] at g1 g2; subst g1; subst g2; rfl
   | succ i=>simpa using e2 i d s (by simpa [nth] using g1) (by simpa [nth] using g2)
 | [],_ :: _,_,h=>by simp [y56q] at h
 | [],[],_ :: _,h=>by simp [y56q] at h
 | _ :: _,[],_,h=>by simp [y56q] at h
 | _ :: _,_ :: _,[],h=>by simp [y56q] at h
theorem evBuild_sound (hR : Rel w0 G0 N F m e a.tmps) {ti : TI} {place : Nat → Option (Nat × Nat)} (hp : ∀ i d s,nth ti.offs i = some d → nth ti.sizes i = some s → place i = some (d,s)) :
  ∀ (l : List (Nat × Operand)) (acc : List V) (cs : List Value) (r : List V),evBuild ti e l acc = some r → R2 (Lv m) acc cs →
   ∃ cs',Instr.fill place cs.toArray (l.map fun x=>(x.1,a.eval x.2)) = some cs'.toArray ∧ R2 (Lv m) r cs'
 | [],acc,cs,r,h,hc=>by
  simp only [evBuild,Option.some.injEq] at h
  subst h
  exact ⟨cs,rfl,hc⟩
 | (i,o) :: l,acc,cs,r,h,hc=>by
  simp only [evBuild] at h
  cases h1 : nth ti.offs i with
  | none=>simp [h1] at h
  | some off =>
   cases h2 : nth ti.sizes i with
   | none=>simp [h1,h2] at h
   | some sz =>
    cases h3 : e.val o with
    | none=>simp [h1,h2,h3] at h
    | some v =>
     simp only [h1,h2,h3] at h
     cases h4 : v.isTup with
     | true=>simp [h4] at h
     | false =>
      cases h5 : Nat.beq sz (lenN v.cells) with
      | false=>simp [h4,h5] at h
      | true =>
       cases h6 : Nat.ble (off + lenN v.cells) (lenN acc) with
       | false=>simp [h4,h5,h6] at h
       | true =>
        simp only [h4,h5,h6] at h
        obtain ⟨vs,hvc,hvr⟩:=(y145q hR h3).cells h4
        have e5:=Nat.eq_of_beq_eq_true h5
        have e6:=Nat.le_of_ble_eq_true h6
        rw [y125q] at e5
        rw [y125q,y125q] at e6
        have hl:=hvr.length
        have hcl:=hc.length
        have hpst:=R2.paste hc hvr (n:=off) e6
        obtain ⟨cs',g1,g2⟩:=evBuild_sound hR hp l _ _ r h hpst
        refine ⟨cs', ?_,g2⟩
        rw [List.map_cons]
        rw [fill_step (hp i off sz h1 h2) hvc (by omega) (by omega)]
        exact g1
theorem build_sound (hΓ : TabOk P Γ) (hR : Rel w0 G0 N F m e a.tmps) {T : Nat} {ti : TI} (hf : find Γ T = some ti) (h0 : ti.elem = 0) (ha : ti.ty.isAgg = true) (parts : Array (Nat × Operand)) {l : List V} (h : evBuild ti e parts.toList (zeros ti.ty []) = some l) :
  ∃ v,(Instr.build T (parts.map fun (i,x)=>(i,a.eval x))).run P m.w = .ok v m.w ∧ Sv m (.agg l) v:=by
 have hT:=hΓ T ti hf
 obtain ⟨i,z,cs,hi,hs,hb,hz,hc,has,hr⟩:=hT.info
 obtain ⟨d,hu,hrow,hfs⟩:=hT.under
 rcases hfs ha with ⟨fs,rfl,hok,_⟩ | ⟨_,_,_,hne,_⟩
 case inr=>exact absurd h0 hne
 obtain ⟨places,hpl,hpi⟩:=places_of hok
 obtain ⟨cs',g1,g2⟩:=evBuild_sound hR (place:=(places.toArray[·]?)) (fun i d s h1 h2=>by simpa using hpi i d s h1 h2) parts.toList _ cs l h (hr m)
 refine ⟨.agg cs'.toArray,run_build m.w T _ _ ?_,cs',rfl,g2⟩
 have hmap : (parts.map fun (i,x)=>(i,a.eval x)).toList = parts.toList.map fun x=>(x.1,a.eval x.2):=by
  rw [Array.toList_map]
 simp only [Program.built,hi,hu,hz,hpl,hmap,hc]
 exact g1
theorem evBuildA_sound (hR : Rel w0 G0 N F m e a.tmps) {sz : Nat} :
  ∀ (l : List (Nat × Operand)) (acc : List V) (cs : List Value) (r : List V),evBuildA sz e l acc = some r → R2 (Lv m) acc cs →
   ∃ cs',Instr.fill (fun i=>some (i * sz,sz)) cs.toArray (l.map fun x=>(x.1,a.eval x.2)) = some cs'.toArray ∧ R2 (Lv m) r cs'
 | [],acc,cs,r,h,hc=>by
  simp only [evBuildA,Option.some.injEq] at h
  subst h
  exact ⟨cs,rfl,hc⟩
 | (i,o) :: l,acc,cs,r,h,hc=>by
  simp only [evBuildA] at h
  cases h3 : e.val o with
  | none=>simp [h3] at h
  | some v =>
   simp only [h3] at h
   cases h4 : v.isTup with
   | true=>simp [h4] at h
   | false =>
    cases h5 : Nat.beq sz (lenN v.cells) with
    | false=>simp [h4,h5] at h
    | true =>
     cases h6 : Nat.ble (i * sz + lenN v.cells) (lenN acc) with
     | false=>simp [h4,h5,h6] at h
     | true =>
      simp only [h4,h5,h6] at h
      obtain ⟨vs,hvc,hvr⟩:=(y145q hR h3).cells h4
      have e5:=Nat.eq_of_beq_eq_true h5
      have e6:=Nat.le_of_ble_eq_true h6
      rw [y125q] at e5
      rw [y125q,y125q] at e6
      have hl:=hvr.length
      have hcl:=hc.length
      have hpst:=R2.paste hc hvr (n:=i * sz) e6
      obtain ⟨cs',g1,g2⟩:=evBuildA_sound hR l _ _ r h hpst
      refine ⟨cs', ?_,g2⟩
      rw [List.map_cons]
      rw [fill_step (place:=fun i=>some (i * sz,sz)) (i:=i) (off:=i * sz) (size:=sz) rfl hvc (by omega) (by omega)]
      exact g1
theorem buildA_sound (hΓ : TabOk P Γ) (hR : Rel w0 G0 N F m e a.tmps) {T : Nat} {ti tj : TI} (hf : find Γ T = some ti) (h0 : ti.elem ≠ 0) (hj : find Γ ti.elem = some tj) (ha : ti.ty.isAgg = true) (parts : Array (Nat × Operand)) {l : List V} (h : evBuildA tj.ty.size e parts.toList (zeros ti.ty []) = some l) :
  ∃ v,(Instr.build T (parts.map fun (i,x)=>(i,a.eval x))).run P m.w = .ok v m.w ∧ Sv m (.agg l) v:=by
 have hT:=hΓ T ti hf
 obtain ⟨i,z,cs,hi,hs,hb,hz,hc,has,hr⟩:=hT.info
 obtain ⟨d,hu,hrow,hfs⟩:=hT.under
 rcases hfs ha with ⟨_,_,_,he⟩ | ⟨n,tj',rfl,_,_,hj',hty⟩
 ·exact absurd he h0
 ·obtain ⟨ie,_,_,hie,hse,_⟩:=(hΓ _ tj hj).info
  obtain ⟨cs',g1,g2⟩:=evBuildA_sound hR parts.toList _ cs l h (hr m)
  refine ⟨.agg cs'.toArray,run_build m.w T _ _ ?_,cs',rfl,g2⟩
  have hmap : (parts.map fun (i,x)=>(i,a.eval x)).toList = parts.toList.map fun x=>(x.1,a.eval x.2):=by
   rw [Array.toList_map]
  simp only [Program.built,hi,hu,hz,hie,hmap,hc,hse]
  exact g1
theorem intsOf_get {k : IntKind} : ∀ {l : List V} {xs : List Int} {cs : List Value},intsOf k l = some xs → R2 (Lv m) l cs → xs.length = l.length ∧ ∀ j,j < xs.length → cs[j]? = some (.int k (xs.getD j 0))
 | [],xs,cs,h,hr=>by
  simp only [intsOf,Option.some.injEq] at h
  subst h
  exact ⟨rfl,fun j hj=>by simp at hj⟩
 | v :: r,xs,cs,h,hr=>by
  cases cs with
  | nil=>exact absurd hr (by simp [R2])
  | cons c cs =>
   obtain ⟨h1,h2⟩:=hr
   cases v with
   | i j n =>
    simp only [intsOf] at h
    cases hk : kEq k j with
    | false=>simp [hk] at h
    | true =>
     have:=kEq_eq hk
     subst this
     cases hl : intsOf k r with
     | none=>simp [hk,hl] at h
     | some l =>
      simp only [hk,hl,Option.some.injEq] at h
      subst h
      obtain ⟨g1,g2⟩:=intsOf_get hl h2
      refine ⟨by simp [g1],fun q hq=>?_⟩
      cases q with
      | zero=>have h1 : c = .int k n:=h1; subst h1; rfl
      | succ q=>simpa using g2 q (by simpa using hq)
   | _=>simp [intsOf] at h
theorem indexArr_sound (hΓ : TabOk P Γ) {T : Nat} {ti : TI} (hf : find Γ T = some ti) {ρ : Type} {v : SV} {x : Value} {kk : IntKind} {n : Int} {K : SV → Env → Option ρ} {r : ρ} (h : y150q Γ ti v n e K = some r) (hv : Sv m v x) :
  ∃ z k q,(Instr.index T x (.int kk n)).run P m.w = .ok z m.w ∧ Sv m (.one (.i k q)) z ∧ K (.one (.i k q)) e = some r:=by
 unfold y150q at h
 cases v with
 | one=>simp at h
 | tup=>simp at h
 | agg l =>
  simp only at h
  cases h0 : Nat.beq ti.elem 0 with
  | true=>rw [h0] at h; simp at h
  | false =>
   cases hag : ti.ty.isAgg with
   | false=>rw [h0,hag] at h; simp at h
   | true =>
   rw [h0,hag] at h
   simp only at h
   have hne : ti.elem ≠ 0:=fun e=>by rw [e] at h0; simp at h0
   cases hj : find Γ ti.elem with
   | none=>rw [hj] at h; simp at h
   | some tj =>
    rw [hj] at h
    simp only at h
    cases ht : tj.ty with
    | int k =>
     rw [ht] at h
     simp only at h
     cases hi : intsOf k l with
     | none=>rw [hi] at h; simp at h
     | some xs =>
      cases hb : Nat.beq (lenN l) ti.ty.size with
      | false=>rw [hi,hb] at h; simp at h
      | true =>
       rw [hi,hb] at h
       simp only at h
       obtain ⟨g0,h⟩:=y25q h
       obtain ⟨g1,h⟩:=y25q h
       obtain ⟨cs,rfl,hr⟩:=hv
       obtain ⟨k1,k2⟩:=intsOf_get hi hr
       have hlen:=Nat.eq_of_beq_eq_true hb
       rw [y125q] at hlen
       have hT:=hΓ T ti hf
       obtain ⟨d,hu,hrow,hfs⟩:=hT.under
       rcases hfs hag with ⟨_,_,_,he⟩ | ⟨len,tj',rfl,_,_,hj',hty⟩
       ·exact absurd he hne
       ·rw [hj] at hj'
        obtain rfl:=Option.some.inj hj'
        have hsz : ∀ n,(arrTy n (.int k)).size = n:=fun n=>by
         induction n with
         | zero=>rfl
         | succ n ih =>
          show 1 + (arrTy n (.int k)).size = n + 1
          rw [ih]; omega
        have hln : xs.length = len:=by rw [k1,hlen,hty,ht,hsz]
        obtain ⟨ie,_,_,hie,hse,_⟩:=(hΓ _ tj hj).info
        have hse1 : ie.size = 1:=by rw [hse,ht]; rfl
        have hq:=k2 n.toNat (by omega)
        have hlt : n < len:=by omega
        have hag2 : (isAgg ti.elem).run P m.w = .ok false m.w:=by
         have:=run_isAgg hΓ hj m.w
         rw [ht] at this
         exact this
        refine ⟨.int k (xs.getD n.toNat 0),k,_, ?_,rfl,h⟩
        simp only [Instr.index,asIntOf,Sem.run_bind,Sem.run_pure,Result.andThen_ok,run_underlying hu,g0,hlt,and_self,if_true,run_sizeOf m.w hie,hse1,Nat.mul_one,part,hag2,Bool.false_eq_true,if_false]
        have hco : P.cellsOf ti.elem = 1:=by simp [Program.cellsOf,hie,hse1]
        have hq' : cs[n.toNat]? = some (Value.int k (xs[n.toNat]?.getD 0)):=by rw [hq,List.getD_eq_getElem?_getD]
        simp [hco,hq']
    | _=>rw [ht] at h; simp at h
theorem caps_sound (hR : Rel w0 G0 N F m e a.tmps) : ∀ (l : List Operand) (cs : List Cap),evCaps e l = some cs → R2 (Cp m) cs (l.map a.eval)
 | [],cs,h=>by simp only [evCaps,Option.some.injEq] at h; subst h; trivial
 | o :: r,cs,h=>by
  simp only [evCaps] at h
  cases hr : evCaps e r with
  | none=>simp [hr] at h
  | some l =>
   have ih:=caps_sound hR r l hr
   simp only [hr] at h
   cases ho : e.one o with
   | none=>simp [ho] at h
   | some x =>
    have hx:=y105q hR ho
    cases x with
    | loc id off =>
     cases off with
     | succ=>simp [ho] at h
     | zero =>
      simp only [ho,Option.some.injEq] at h
      subst h
      exact ⟨hx,ih⟩
    | el t y off =>
     cases off with
     | succ=>simp [ho] at h
     | zero =>
      simp only [ho,Option.some.injEq] at h
      subst h
      obtain ⟨b,o',cs',e1,h1,h2,h3⟩:=hx
      exact ⟨⟨b,o',cs',by simpa using e1,h1,h2,h3⟩,ih⟩
    | _=>simp [ho] at h
theorem extract_sound {l : List (Bool × List V)} {v : Value} (h : Sv m (.tup l) v) {i : Nat} {p : Bool × List V} (hi : nth l i = some p) (w : World) :
  ∃ x,(Instr.extract v i).run P w = .ok x w ∧ Pv m p x:=by
 obtain ⟨xs,rfl,hr⟩:=h
 rw [nth_eq] at hi
 obtain ⟨x,hx,hp⟩:=hr.get i p hi
 exact ⟨x,by simp [Instr.extract,hx],hp⟩
end
end Go.Ev
end
