import Derived.Test.YtmigbnokhhdopaaRrEvC
import Derived.Lib.ConvBytes
import Derived.Lib.MinMax
import Derived.Laws.BytesArg
import Derived.Shelf.SlSortFuncK.RowK2
import Derived.Below
import Derived.Calls
import Derived.Test.YtmigbnokhhdopaaRrEvA
set_option linter.unusedSimpArgs false
set_option linter.unusedVariables false
set_option linter.unusedSectionVars false
section
namespace Go.Ev
open Go.RowKit (Below)
theorem piece_get {f : List Value} {a n q : Nat} {u : Value} (h : ((f.drop a).take n)[q]? = some u) : f[a + q]? = some u:=by
 rw [List.getElem?_take] at h
 split at h
 ·rwa [List.getElem?_drop] at h
 ·cases h
theorem cur_left {f g h : List Value} {i : Nat} {u : Value} (e : f[i]? = some u) : (f ++ g ++ h)[i]? = some u:=by
 obtain ⟨hi,_⟩:=List.getElem?_eq_some_iff.1 e
 rw [List.append_assoc,List.getElem?_append_left hi]; exact e
theorem cur_mid {f g h : List Value} {i : Nat} {u : Value} (e : g[i]? = some u) : (f ++ g ++ h)[f.length + i]? = some u:=by
 obtain ⟨hi,_⟩:=List.getElem?_eq_some_iff.1 e
 rw [List.append_assoc,List.getElem?_append_right (by omega),Nat.add_sub_cancel_left,List.getElem?_append_left hi]; exact e
structure AppR (w0 : Base) (m : St) (T : Nat) (t : Ty) (xs ys : List t.den) (news : List Value) (v v' : Value) (w' : World) : Prop where
 base : Kept w0 w'
 size : m.w.heap.size ≤ w'.heap.size
 keep : ∀ b,b < m.w.heap.size → v.ownBlock ≠ some b → w'.heap[b]? = m.w.heap[b]?
 row : RowAt w' m.G T t (xs ++ ys) v'
 sl : ∃ A n c,v' = .slice A n c
 none_ : v'.ownBlock = none → xs ++ ys = []
 own : ∀ b',v'.ownBlock = some b' → b' < w'.heap.size ∧ (v.ownBlock = some b' ∨ m.w.heap.size ≤ b')
 old : ∀ b',v'.ownBlock = some b' → ∀ j,j < xs.length → ∃ b cs,v.ownBlock = some b ∧ CellsAt m.w b (j * t.size) cs ∧ CellsAt w' b' (j * t.size) cs ∧ cs.length = t.size
 new : ∀ b',v'.ownBlock = some b' → ∀ j,j < ys.length → CellsAt w' b' ((xs.length + j) * t.size) ((news.drop (j * t.size)).take t.size)
theorem AppR.of {w0 : Base} {m : St} {T b' cc : Nat} {t : Ty} {xs ys : List t.den} {news f h : List Value} {v : Value} {w' : World} (hh : w'.heap[b']? = some (.cells (f ++ news ++ h).toArray T (0,0)))
  (hf : f.length = xs.length * t.size) (hfc : ∀ j,j < xs.length → ∃ b,v.ownBlock = some b ∧ CellsAt m.w b (j * t.size) ((f.drop (j * t.size)).take t.size))
  (base : Kept w0 w') (size : m.w.heap.size ≤ w'.heap.size) (keep : ∀ b,b < m.w.heap.size → v.ownBlock ≠ some b → w'.heap[b]? = m.w.heap[b]?) (row : RowAt w' m.G T t (xs ++ ys) (.slice (some ⟨b',0,none⟩) (xs.length + ys.length) cc))
  (hlt : b' < w'.heap.size) (how : v.ownBlock = some b' ∨ m.w.heap.size ≤ b') : AppR w0 m T t xs ys news v (.slice (some ⟨b',0,none⟩) (xs.length + ys.length) cc) w':=by
 refine ⟨base,size,keep,row,⟨_,_,_,rfl⟩,fun h=>(by cases h),fun b hb=>?_,fun b hb j hj=>?_,fun b hb j hj=>?_⟩
 ·obtain rfl : b' = b:=Option.some.inj hb
  exact ⟨hlt,how⟩
 ·obtain rfl : b' = b:=Option.some.inj hb
  obtain ⟨b0,e1,e2⟩:=hfc j hj
  refine ⟨b0,_,e1,e2, ?_, ?_⟩
  ·rw [y37q hh]
   intro q u hu
   exact cur_left (piece_get hu)
  ·have hle : (j + 1) * t.size ≤ xs.length * t.size:=Nat.mul_le_mul_right _ hj
   rw [Nat.add_mul,Nat.one_mul] at hle
   rw [List.length_take,List.length_drop]; omega
 ·obtain rfl : b' = b:=Option.some.inj hb
  rw [y37q hh]
  intro q u hu
  have:=cur_mid (f:=f) (h:=h) (piece_get hu)
  rw [Nat.add_mul,← hf,Nat.add_assoc]; exact this
section
variable {P : Program} {w0 : Base} {G0 : Nat → Prop} {N : Nat} {F : List (Nat × Obj)} {m : St} {e : Env} {tm : Array Value} {Γ : Tab} {ρ : Type} {os : List (Nat × Obj)}
theorem append_core (hΓ : TabOk P Γ) (hok : ObjsOk w0 G0 m os) {T : Nat} {ti : TI} (hf : find Γ T = some ti) {t : Ty} (ht : SlOf ti.ty t) {xs ys : List t.den} {v : Value} {ty : TypeId} {A : Option Addr} {c : Nat} {news : List Value}
  (hrow : RowAt m.w m.G ti.elem t xs v) (hnl : news.length = ys.length * t.size) (hna : 0 < ys.length → ∃ ad : Addr,A = some ad ∧ ∀ j u,news[j]? = some u → m.w.cell? (ad.add j) = some u)
  (hnv : ∀ j,j < ys.length → Val m.w m.G t (ys.getD j t.zero) ((news.drop (j * t.size)).take t.size)) (hn1 : ∀ u ∈ news,u.oneCell' = true) (hcap : xs.length + ys.length ≤ capN)
  (hv : ∀ a n c,v = .slice (some a) n c → Mine w0 a.block ∧ a.block < m.w.heap.size ∧ ¬ m.G a.block) :
  ∃ v' w',(Builtin.append_ #[T,T] ty #[v, .slice A ys.length c]).run P m.w = .ok v' w' ∧ AppR w0 m ti.elem t xs ys news v v' w':=by
 obtain ⟨hu,hpos,tj,_,_,i,z,zs,hi,hsz,hby,hz,hzc,_⟩:=y65q hΓ hf ht
 have hzs : z.cells.size = t.size:=by
  obtain ⟨h1,h2,tj,h3,h4,i',z',zs',hi',hs',hb',hz',hc',hr'⟩:=y65q hΓ hf ht
  rw [hi] at hi'
  obtain rfl:=Option.some.inj hi'
  rw [hz] at hz'
  obtain rfl:=Option.some.inj hz'
  have hq:=(hr' m).length
  have hzl : ∀ t : Ty,(zeros t []).length = t.size:=by
   intro t
   have key : ∀ (t : Ty) (l : List V),(zeros t l).length = t.size + l.length:=by
    intro t
    induction t with
    | pair a b iha ihb=>intro l; simp only [zeros,iha,ihb,Ty.size]; omega
    | _=>intro l; simp [zeros,Ty.size]; try omega
   simpa using key t []
  rw [hc',List.size_toArray,← hq,hzl]
 have hmax : xs.length + ys.length ≤ maxLen:=by simp only [capN] at hcap; simp only [maxLen]; omega
 have h63 : ((xs.length + ys.length : Nat) : Int) ≤ 9223372036854775807:=by simp only [capN] at hcap; omega
 have hbytes : (xs.length + ys.length) * i.bytes ≤ 140737488355328:=by
  simp only [capN] at hcap
  have h1:=Nat.mul_le_mul hcap hby
  omega
 have hG : ∀ (w' : World),(∀ b,m.G b → w'.heap[b]? = m.w.heap[b]?) → ∀ b,m.G b → m.G b ∧ w'.heap[b]? = m.w.heap[b]?:=fun w' h b hb=>⟨hb,h b hb⟩
 by_cases hy0 : ys.length = 0
 ·-- nothing is appended
  have : ys = []:=List.eq_nil_of_length_eq_zero hy0
  subst this
  refine ⟨v,m.w, ?_,hok.base,Nat.le_refl _,fun _ _ _=>rfl,by simpa using hrow, ?_,fun hn=>?_,fun b hb=>?_,fun b hb j hj=>?_,fun b hb j hj=>absurd hj (by simp)⟩
  ·rcases hrow with ⟨rfl,_⟩ | ⟨b,c',cs,rfl,_,h1,_⟩
   ·exact y66q hu hi _ _ _ _ _ _ (Nat.le_refl _)
   ·exact y66q hu hi _ _ _ _ _ _ h1
  ·rcases hrow with ⟨rfl,_⟩ | ⟨b,c',cs,rfl,_,h1,_⟩
   ·exact ⟨_,_,_,rfl⟩
   ·exact ⟨_,_,_,rfl⟩
  ·rcases hrow with ⟨rfl,rfl⟩ | ⟨b,c',cs,rfl,_⟩
   ·rfl
   ·cases hn
  ·obtain ⟨a,n,c',e1,rfl⟩:=ownBlock_some hb
   exact ⟨(hv a n c' e1).2.1, .inl hb⟩
  ·rcases hrow with ⟨rfl,_⟩ | ⟨b',c',cs,rfl,_,h1,_,_,hel⟩
   ·cases hb
   ·obtain rfl : b' = b:=Option.some.inj hb
    obtain ⟨cs',k1,k2⟩:=hel j hj
    exact ⟨b',cs',rfl,k1,k1,k2.length⟩
 ·obtain ⟨ad,rfl,hcells⟩:=hna (by omega)
  have fresh : ∀ (old : Nat) (flat : List Value),flat.length = xs.length * t.size → (∀ j,j < xs.length → Val m.w m.G t (xs.getD j t.zero) ((flat.drop (j * t.size)).take t.size)) →
    (∀ j,j < xs.length → ∃ b,v.ownBlock = some b ∧ CellsAt m.w b (j * t.size) ((flat.drop (j * t.size)).take t.size)) → old < xs.length + ys.length →
    (Builtin.append_ #[T,T] ty #[v, .slice (some ad) ys.length c]).run P m.w = .ok (.slice (some ⟨m.w.heap.size,0,none⟩) (xs.length + ys.length) (grownCap m.w (xs.length + ys.length) old ti.elem))
     (m.w.drew.alloc (.cells (flat ++ news ++ (Builtin.zeroCells z.cells (grownCap m.w (xs.length + ys.length) old ti.elem - (xs.length + ys.length))).toList).toArray ti.elem)) →
    ∃ v' w',(Builtin.append_ #[T,T] ty #[v, .slice (some ad) ys.length c]).run P m.w = .ok v' w' ∧ AppR w0 m ti.elem t xs ys news v v' w':=by
   intro old flat hfl hfv hfi hold hrun
   have hge:=grownCap_ge m.w (xs.length + ys.length) old ti.elem
   have hcm:=grownCap_le_maxLen m.w (xs.length + ys.length) old ti.elem hmax
   generalize grownCap m.w (xs.length + ys.length) old ti.elem = gc at hrun hge hcm
   have hheap : ∀ cur : List Value,∀ b,b < m.w.heap.size → (m.w.drew.alloc (.cells cur.toArray ti.elem)).heap[b]? = m.w.heap[b]?:=fun cur b hb=>Below.heap_alloc m.w.drew _ _ hb
   have hsame : ∀ cur : List Value,∀ b,m.G b → m.G b ∧ (m.w.drew.alloc (.cells cur.toArray ti.elem)).heap[b]? = m.w.heap[b]?:=fun cur b hb=>⟨hb,hheap cur b (hok.liveG b hb)⟩
   refine ⟨_,_,hrun,AppR.of (heap_alloc_new m.w.drew _) hfl hfi ((hok.base.drew).alloc (by simpa using hok.base.size) _) (by simp) (fun b hb _=>hheap _ b hb) ?_ (by simp) (.inr (Nat.le_refl _))⟩
   have hlen : (xs ++ ys).length = xs.length + ys.length:=List.length_append
   rw [← hlen]
   refine RowAt.mk (flat:=flat ++ news) (heap_alloc_new m.w.drew _) (by omega) hcm ?_ ?_ ?_
   ·simp only [List.length_append,Array.length_toList,size_zeroCells,hzs,hfl,hnl,← Nat.add_mul]
    congr 1; omega
   ·rw [hlen]
    have : (xs.length + ys.length) * t.size = (flat ++ news).length:=by rw [List.length_append,hfl,hnl,Nat.add_mul]
    rw [this,List.take_left]
   ·exact y127q hfl hnl (fun j hj=>Val.mono (hsame _) _ _ _ (hfv j hj)) (fun j hj=>Val.mono (hsame _) _ _ _ (hnv j hj))
  rcases hrow with ⟨rfl,rfl⟩ | ⟨b,cc,cs,rfl,hh,h1,h2,h3,hel⟩
  ·refine fresh 0 [] (by simp) (fun j hj=>absurd hj (by simp)) (fun j hj=>absurd hj (by simp)) (by simp; omega) ?_
   have hb0 : ys.length * i.bytes ≤ 281474976710656:=by simp only [List.length_nil,Nat.zero_add] at hbytes; omega
   have hr:=run_append_nil (P:=P) m.w T ty ti.elem i z hu hi hz ad ys.length c news (by rw [hnl,hsz]) hcells (by omega) (by simp only [List.length_nil,Nat.zero_add] at h63; exact h63) hb0
   simp only [List.length_nil,Nat.zero_add,List.nil_append]
   rw [hr]
   congr 3
   apply Array.ext'
   simp
  ·obtain ⟨flat,g1,g2,g3,g4⟩:=flat_of (w:=m.w) (sz:=t.size) (fun j cs'=>Val m.w m.G t (xs.getD j t.zero) cs') b 0 xs.length fun j hj=>by
    obtain ⟨cs',hc',hv'⟩:=hel j hj
    exact ⟨cs',by simpa using hc',hv',hv'.length,Val.oneCells (m:=m) hv'⟩
   have hcflat : flat = cs.take (xs.length * t.size):=by
    have hcg:=(y37q hh 0 flat).1 g2
    have hle : xs.length * t.size ≤ cs.length:=by rw [h3]; exact Nat.mul_le_mul_right _ h1
    apply List.ext_getElem?
    intro q
    by_cases hq : q < flat.length
    ·rw [List.getElem?_eq_getElem hq,List.getElem?_take,if_pos (by omega)]
     have:=hcg q _ (List.getElem?_eq_getElem hq)
     rw [Nat.zero_add] at this
     exact this.symm
    ·rw [List.getElem?_eq_none (by omega),List.getElem?_take,if_neg (by omega)]
   have hfc : ∀ j,j < xs.length → ∃ b',(Value.slice (some ⟨b,0,none⟩) xs.length cc).ownBlock = some b' ∧ CellsAt m.w b' (j * t.size) ((flat.drop (j * t.size)).take t.size):=fun j hj=>by
    refine ⟨b,rfl, ?_⟩
    rw [y37q hh]
    intro q u hu
    have:=(y37q hh 0 flat).1 g2 _ _ (piece_get hu)
    rwa [Nat.zero_add] at this
   by_cases hroom : xs.length + ys.length ≤ cc
   ·-- there is room
    have hfit : xs.length * i.size + news.length ≤ cs.toArray.size:=by
     rw [hsz,hnl,List.size_toArray,h3,← Nat.add_mul]
     exact Nat.mul_le_mul_right _ hroom
    have hr:=run_append_room (P:=P) m.w T ty ti.elem i hu hi b xs.length cc cs.toArray hh ad ys.length c news (by rw [hnl,hsz]) hcells hn1 hroom hfit
    rw [hsz] at hr
    have hfit' : xs.length * t.size + news.length ≤ cs.length:=by rw [hsz] at hfit; simpa using hfit
    obtain ⟨o1,o2,o3⟩:=hv _ _ _ rfl
    simp only at o1 o2 o3
    have hheap : ∀ q,q ≠ b → ∀ ncs,(m.w.setRow b ncs).heap[q]? = m.w.heap[q]?:=fun q hq ncs=>setRow_other _ _ _ _ hq
    have hcur : cs.toArray.toList.take (xs.length * t.size) ++ news ++ cs.toArray.toList.drop (xs.length * t.size + news.length) = flat ++ news ++ cs.drop (xs.length * t.size + news.length):=by rw [hcflat]
    rw [hcur] at hr
    have hnh:=setRow_heap m.w b _ (flat ++ news ++ cs.drop (xs.length * t.size + news.length)).toArray _ _ hh
    have hsame : ∀ q,m.G q → m.G q ∧ (m.w.setRow b (flat ++ news ++ cs.drop (xs.length * t.size + news.length)).toArray).heap[q]? = m.w.heap[q]?:=fun q hq=>⟨hq,hheap q (fun e=>o3 (e ▸ hq)) _⟩
    refine ⟨_,_,hr,AppR.of hnh g1 hfc (kept_setRow hok.base o1 _) (by simp [World.setRow]) (fun q _ hq=>hheap q (fun e=>hq (by rw [e]; rfl)) _) ?_ (by simpa [World.setRow] using o2) (.inl rfl)⟩
    have hlen : (xs ++ ys).length = xs.length + ys.length:=List.length_append
    rw [← hlen]
    refine RowAt.mk (flat:=flat ++ news) hnh (by omega) h2 ?_ ?_ ?_
    ·rw [hcflat,y126q _ _ _ hfit']; exact h3
    ·rw [hlen]
     have hl2 : (flat ++ news).length = (xs.length + ys.length) * t.size:=by rw [List.length_append,g1,hnl,Nat.add_mul]
     rw [← hl2,List.take_left]
    ·exact y127q g1 hnl (fun j hj=>Val.mono hsame _ _ _ (g3 j hj)) (fun j hj=>Val.mono hsame _ _ _ (hnv j hj))
   ·-- it grows
    refine fresh cc flat g1 g3 hfc (by omega) ?_
    have hr:=run_append_grow (P:=P) m.w T ty ti.elem i z hu hi hz ⟨b,0,none⟩ xs.length cc flat (by rw [g1,hsz]) (fun j u hu'=>by rw [y47q]; exact g2 j u hu') ad ys.length c news (by rw [hnl,hsz]) hcells (by omega) h63 (growslice_fits (by omega) hbytes)
    rw [hr]
    congr 3
    apply Array.ext'
    simp
end
end Go.Ev
end
section
namespace Go.Ev
open Go.RowKit (Below)
section
variable {P : Program} {w0 : Base} {G0 : Nat → Prop} {N : Nat} {F : List (Nat × Obj)} {m : St} {e : Env} {tm : Array Value} {Γ : Tab} {ρ : Type} {os : List (Nat × Obj)}
theorem rngSrc {T id lo hi : Nat} {t : Ty} {xs : List t.den} {v : Value} (h : RowAt m.w m.G T t xs (m.ν id)) (hl : Lv m (.rng id t.size lo hi) v) :
  ∃ A c,∃ news : List Value,v = .slice A ((xs.take hi).drop lo).length c ∧ news.length = ((xs.take hi).drop lo).length * t.size ∧ ((xs.take hi).drop lo).length = hi - lo ∧ lo ≤ hi ∧ hi ≤ xs.length ∧
   (0 < ((xs.take hi).drop lo).length → ∃ ad : Addr,A = some ad ∧ ∀ j u,news[j]? = some u → m.w.cell? (ad.add j) = some u) ∧
   (∀ j,j < ((xs.take hi).drop lo).length → Val m.w m.G t (((xs.take hi).drop lo).getD j t.zero) ((news.drop (j * t.size)).take t.size)) ∧ (∀ u ∈ news,u.oneCell' = true) ∧
   ∀ b,(m.ν id).ownBlock = some b → ∀ j,j < hi - lo → CellsAt m.w b ((lo + j) * t.size) ((news.drop (j * t.size)).take t.size):=by
 obtain ⟨_,hlo,A,n,c,A',c',e1,hn,rfl,hc',hA,_⟩:=hl
 rw [e1] at h ⊢
 rcases h with ⟨e,rfl⟩ | ⟨b,c2,cs,e,hh,h1,h2,h3,hx⟩
 ·simp only [Value.slice.injEq] at e
  have h0 : hi - lo = 0:=by omega
  rw [h0]
  exact ⟨A',c',[],by simp,by simp,by simp,hlo,by simp; omega,fun h=>absurd h (by simp),fun j h=>absurd h (by simp),fun u h=>by simp at h,fun _ _ j h=>absurd h (by omega)⟩
 ·simp only [Value.slice.injEq] at e
  obtain ⟨rfl,rfl,rfl⟩:=e
  have hlen : ((xs.take hi).drop lo).length = hi - lo:=by simp; omega
  by_cases h0 : lo < hi
  ·have hA:=hA h0
   simp only [Option.map_some,y47q,Nat.zero_add] at hA
   subst hA
   obtain ⟨flat,g1,g2,g3,g4⟩:=flat_of (w:=m.w) (sz:=t.size) (fun j cs'=>Val m.w m.G t (((xs.take hi).drop lo).getD j t.zero) cs' ∧ CellsAt m.w b ((lo + j) * t.size) cs') b (lo * t.size) (hi - lo) fun j hj=>by
    obtain ⟨cs',k1,k2⟩:=hx (lo + j) (by omega)
    refine ⟨cs',by rw [← Nat.add_mul]; exact k1,⟨?_,k1⟩,k2.length,Val.oneCells (m:=m) k2⟩
    have : ((xs.take hi).drop lo).getD j t.zero = xs.getD (lo + j) t.zero:=by
     simp only [List.getD_eq_getElem?_getD,List.getElem?_drop,List.getElem?_take]
     rw [if_pos (by omega)]
    rw [this]; exact k2
   refine ⟨_,c',flat,by rw [hlen],by rw [hlen]; exact g1,hlen,hlo,by omega,fun _=>⟨⟨b,lo * t.size,none⟩,rfl,fun j u hu=>?_⟩,fun j hj=>(g3 j (by omega)).1,g4,fun b' hb' j hj=>?_⟩
   ·rw [y47q]
    exact g2 j u hu
   ·obtain rfl : b = b':=Option.some.inj hb'
    exact (g3 j hj).2
  ·have h0 : hi - lo = 0:=by omega
   have hnil : (xs.take hi).drop lo = []:=List.eq_nil_of_length_eq_zero (by omega)
   rw [hnil,h0]
   exact ⟨A',c',[],rfl,by simp,by simp,hlo,by omega,fun h=>absurd h (by simp),fun j h=>absurd h (by simp),fun u h=>by simp at h,fun _ _ j h=>absurd h (by omega)⟩
theorem Bor.of {h : Nat → Value} {t : Ty} {xs : List t.den} {v : Value} {w : World} {b j : Nat} {cs : List Value} (hd : HdOk w h t xs v) (hb : v.ownBlock = some b) (hj : j < xs.length) (hc : CellsAt w b (j * t.size) cs) (hl : cs.length = t.size) : Bor h t j cs:=by
 intro o ho
 have hlt:=ownAt_lt ho
 obtain ⟨k1,_⟩:=hd b hb j hj o ho
 have k2:=cellsAt_take (cellsAt_drop hc o) 1
 have hd1 : (cs.drop o).take 1 = [cs[o]'(by omega)]:=by
  rw [List.drop_eq_getElem_cons (by omega)]; rfl
 rw [hd1] at k2
 have:=y23q k2 k1 (by simp)
 simp only [List.cons.injEq,and_true] at this
 rw [← this]
 exact List.getElem?_eq_getElem (by omega)
theorem Val_mix {w : World} {G : Nat → Prop} : ∀ {t : Ty} {z x : t.den} {cs : List Value},Val w G t z cs → Val w G t (mixEl t z x) cs
 | .int _,_,_,_,h | .bool,_,_,_,h | .str,_,_,_,h | .sl _,_,_,_,h | .unit,_,_,_,h | .any,_,_,_,h | .mp _ _,_,_,_,h | .omp _ _,_,_,_,h=>h
 | .osl _ _,_,_,_,h=>h
 | .pair a b,z,x,cs,⟨c1,c2,e,h1,h2⟩=>⟨c1,c2,e,Val_mix h1,Val_mix h2⟩
theorem Inn_mix {w : World} {G : Nat → Prop} : ∀ {t : Ty} {z x : t.den} {cs ds : List Value} {bl : List Nat},t.noMp = true → Inn w G t x ds bl → cs.length = t.size → ds.length = t.size → (∀ o,ownAt t o = true → cs[o]? = ds[o]?) → Inn w G t (mixEl t z x) cs bl
 | .int _,_,_,_,_,_,_,h,_,_,_ | .bool,_,_,_,_,_,_,h,_,_,_ | .str,_,_,_,_,_,_,h,_,_,_ | .sl _,_,_,_,_,_,_,h,_,_,_ | .unit,_,_,_,_,_,_,h,_,_,_ | .any,_,_,_,_,_,_,h,_,_,_ | .mp _ _,_,_,_,_,_,_,h,_,_,_=>h
 | .omp _ _,_,_,_,_,_,h,_,_,_,_=>by simp [Ty.noMp] at h
 | .osl T t,z,x,cs,ds,bl,_,⟨v,e,hr,hi⟩,hl,_,ho=>by
  subst e
  refine ⟨v, ?_,hr,hi⟩
  have h0:=ho 0 rfl
  match cs,hl with
  | [u],_ =>
   simp at h0
   rw [h0]
 | .pair a b,z,x,cs,ds,bl,hnm,⟨c1,c2,b1,b2,e,hl1,e2,h1,h2⟩,hl,hld,ho=>by
  subst e
  simp only [Ty.noMp,Bool.and_eq_true] at hnm
  have hs : (Ty.pair a b).size = a.size + b.size:=rfl
  rw [hs] at hl hld
  rw [List.length_append] at hld
  refine ⟨cs.take a.size,cs.drop a.size,b1,b2,(List.take_append_drop _ _).symm,by rw [List.length_take]; omega,e2, ?_, ?_⟩
  ·refine Inn_mix hnm.1 h1 (by rw [List.length_take]; omega) hl1 fun o hoo=>?_
   have hlt:=ownAt_lt hoo
   have:=ho o (by simp only [ownAt]; rw [show Nat.blt o a.size = true from by rw [Nat.blt_eq]; exact hlt]; exact hoo)
   rw [List.getElem?_take,if_pos hlt,this,List.getElem?_append_left (by omega)]
  ·refine Inn_mix hnm.2 h2 (by rw [List.length_drop]; omega) (by omega) fun o hoo=>?_
   have:=ho (a.size + o) (by simp only [ownAt]; rw [show Nat.blt (a.size + o) a.size = false from Bool.eq_false_iff.2 fun h=>by rw [Nat.blt_eq] at h; omega]; simpa using hoo)
   rw [List.getElem?_drop,this,List.getElem?_append_right (by omega)]
   congr 1; omega
theorem mixL_len {t : Ty} {zs xs : List t.den} (h : zs.length ≤ xs.length) : (mixL t zs xs).length = zs.length:=by
 unfold mixL; rw [List.length_zipWith]; omega
theorem mixL_get {t : Ty} {zs xs : List t.den} {j : Nat} {d : t.den} (h : j < zs.length) (h2 : j < xs.length) : (mixL t zs xs).getD j d = mixEl t (zs.getD j d) (xs.getD j d):=by
 unfold mixL
 simp [List.getD_eq_getElem?_getD,List.getElem?_zipWith,List.getElem?_eq_getElem h,List.getElem?_eq_getElem h2]
theorem ObjsOk.newMix (h : ObjsOk w0 G0 m os) (w' : World) (T : Nat) (t : Ty) (src q lo : Nat) (zs ys : List t.den) (v : Value) (bl : List Nat) (hbase : Kept w0 w')
  (hGs : ∀ b,m.G b → w'.heap[b]? = m.w.heap[b]?) (hHs : ∀ b,m.H b → w'.heap[b]? = m.w.heap[b]?) (hsz : m.w.heap.size ≤ w'.heap.size)
  (hb : ∀ i b,blk os m i b → w'.heap[b]? = m.w.heap[b]?) (hrow : RowAt w' m.G T t (zs ++ ys) v) (hin : MixI w' m.G (m.hd q) t lo zs.length ys v bl) (hnd : bl.Nodup) (hq : m.D q)
  {n : Nat} (hfr : ¬ m.D n) (hn : ∀ b ∈ bl,Mine w0 b ∧ b < w'.heap.size ∧ ¬ m.G b ∧ ¬ m.H b ∧ ∀ i,¬ blk os m i b) :
  ∃ m',m.le m' ∧ m'.w = w' ∧ (∀ i,m'.D i ↔ m.D i ∨ i = n) ∧ m'.ν n = v ∧ ObjsOk w0 G0 m' ((n, .mix T t n src q lo zs ys) :: os):=by
 let m' : St:={ m with w:=w',ν:=fun i=>if i = n then v else m.ν i,D:=fun i=>m.D i ∨ i = n,σ:=fun i=>if i = n then bl else m.σ i }
 have hle : m.le m':=⟨fun b hb=>⟨hb,hGs b hb⟩,fun b hb=>⟨hb,hHs b hb⟩,fun _ h=>.inl h,fun _ _=>rfl,fun i hi=>if_neg (fun (e : i = n)=>hfr (e ▸ hi)),fun i hi=>if_neg (fun (e : i = n)=>hfr (e ▸ hi)),fun i hi=>rfl⟩
 have hν : m'.ν n = v:=if_pos rfl
 have hσ : m'.σ n = bl:=if_pos rfl
 refine ⟨m',hle,rfl,fun _=>Iff.rfl,hν,h.new hfr hle (.inr rfl) _ hbase hb (fun b hb=>⟨.inl hb, ?_⟩) (fun b hb=>⟨.inl hb, ?_⟩) hsz h.gh ?_ ?_⟩
 ·have:=h.liveG b hb; exact Nat.lt_of_lt_of_le this hsz
 ·have:=h.liveH b hb; exact Nat.lt_of_lt_of_le this hsz
 ·show RowAt w' m.G T t (zs ++ ys) (m'.ν n) ∧ MixI w' m.G (m.hd q) t lo zs.length ys (m'.ν n) (m'.σ n) ∧ (m'.σ n).Nodup ∧ m'.D n ∧ m'.D q
  rw [hν,hσ]; exact ⟨hrow,hin,hnd, .inr rfl, .inl hq⟩
 ·intro b hb
  unfold blk at hb
  rw [y14q,if_pos rfl] at hb
  simp only [hσ] at hb
  obtain ⟨h1,h2,h3,h4,h5⟩:=hn b hb
  exact ⟨h3,h4,h2,h1,h5⟩
theorem AppR.same {T : Nat} {t : Ty} {xs ys : List t.den} {news : List Value} {v v' : Value} {w' : World} (hA : AppR w0 m T t xs ys news v v' w') (hok : ObjsOk w0 G0 m os) (hv : ∀ b,v.ownBlock = some b → ¬ m.G b ∧ ¬ m.H b) :
  (∀ b,m.G b → w'.heap[b]? = m.w.heap[b]?) ∧ ∀ b,m.H b → w'.heap[b]? = m.w.heap[b]? :=
 ⟨fun b hb=>hA.keep b (hok.liveG b hb) fun e=>(hv b e).1 hb,fun b hb=>hA.keep b (hok.liveH b hb) fun e=>(hv b e).2 hb⟩
theorem newBlock (hok : ObjsOk w0 G0 m os) {b : Nat} (h : m.w.heap.size ≤ b) {w' : World} (hlt : b < w'.heap.size) : Mine w0 b ∧ b < w'.heap.size ∧ ¬ m.G b ∧ ¬ m.H b ∧ ∀ i,¬ blk os m i b :=
 ⟨.inl (Nat.le_trans hok.base.size h),hlt,fun hg=>by have:=hok.liveG _ hg; omega,fun hg=>by have:=hok.liveH _ hg; omega,fun i hi=>by have:=(hok.out i _ hi).2.2.1; omega⟩
theorem mixNew_sound (hΓ : TabOk P Γ) (hR : Rel w0 G0 N F m e tm) {T : Nat} {ti : TI} (hf : find Γ T = some ti) {t : Ty} (ht : SlOf ti.ty t) {id q lo hi : Nat} {xs : List t.den} {xv : Value} {ty : TypeId}
  (ho : find e.objs id = some (.row ti.elem t q xs)) (hx : Lv m (.rng id t.size lo hi) xv) (hcap : hi - lo ≤ capN) (hfr : ¬ m.D e.next) :
  ∃ m',(Builtin.append_ #[T,T] ty #[.slice none 0 0,xv]).run P m.w = .ok (m'.ν e.next) m'.w ∧ Stp m e m' (e.new (.mix ti.elem t e.next id q lo ((xs.take hi).drop lo) [])) ∧ Rel w0 G0 N F m' (e.new (.mix ti.elem t e.next id q lo ((xs.take hi).drop lo) [])) tm ∧ Lv m' (.row e.next) (m'.ν e.next):=by
 obtain ⟨o1,o2,o3,o4,o5⟩:=(hR.obj id _ ho).2
 obtain ⟨A,c,news,rfl,hnl,hlen,hlo,hhi,hna,hnv,hn1,hcells⟩:=rngSrc o1 hx
 obtain ⟨v',w',hrun,hA⟩:=append_core (P:=P) (ty:=ty) hΓ hR.ok hf ht (xs:=[]) (v:=.slice none 0 0) (c:=c) (.inl ⟨rfl,rfl⟩) hnl hna hnv hn1 (by simp only [List.length_nil]; omega) (by intro a n c e; simp at e)
 generalize hys : (xs.take hi).drop lo = ys at *
 obtain ⟨hG,hH⟩:=hA.same hR.ok (fun b hb=>by cases hb)
 have hnew : ∀ b,v'.ownBlock = some b → m.w.heap.size ≤ b ∧ b < w'.heap.size:=fun b hb=>by
  obtain ⟨k1,k2⟩:=hA.own b hb
  rcases k2 with k2 | k2
  ·cases k2
  ·exact ⟨k2,k1⟩
 obtain ⟨m',hle,hw,hD,hν,hok'⟩:=hR.ok.newMix w' ti.elem t id q lo ys [] v' (match v'.ownBlock with | some b=>[b] | none=>[]) hA.base hG hH hA.size
  (fun i b hb=>hA.keep b (hR.ok.out i b hb).2.2.1 (fun e=>by cases e)) (by simpa using hA.row) (by
   cases hob : v'.ownBlock with
   | none=>exact .inl ⟨hob,rfl⟩
   | some b' =>
    refine .inr ⟨b',hob,[],rfl,rfl,fun j hj=>?_,fun j hj=>absurd hj (by simp)⟩
    have k1:=hA.new b' hob j hj
    rw [List.length_nil,Nat.zero_add] at k1
    have hl : ((news.drop (j * t.size)).take t.size).length = t.size:=by
     have hle : (j + 1) * t.size ≤ ys.length * t.size:=Nat.mul_le_mul_right _ hj
     rw [Nat.add_mul,Nat.one_mul] at hle
     rw [List.length_take,List.length_drop]; omega
    refine ⟨_,k1,hl, ?_⟩
    cases hsb : (m.ν id).ownBlock with
    | none =>
     rcases o1 with ⟨_,rfl⟩ | ⟨b,c,cs,e1,_⟩
     ·simp at hhi; omega
     ·rw [e1] at hsb; cases hsb
    | some b=>exact Bor.of o4 hsb (by omega) (hcells b hsb j (by omega)) hl) (by cases v'.ownBlock <;> simp) o5 hfr (fun b hb=>by
   cases hob : v'.ownBlock with
   | none=>rw [hob] at hb; simp at hb
   | some b' =>
    rw [hob] at hb
    simp only [List.mem_singleton] at hb
    subst hb
    exact newBlock hR.ok (hnew _ hob).1 (hnew _ hob).2)
 refine ⟨m',by rw [hν,hw]; exact hrun, .new hle hD rfl,hR.push hfr hle _ hok',(hD _).2 (.inr rfl),rfl, ?_⟩
 rw [hν]; exact hA.sl
theorem MixI.inv {w : World} {G : Nat → Prop} {h : Nat → Value} {T : Nat} {t : Ty} {lo : Nat} {zs ws : List t.den} {v : Value} {bl : List Nat} (hrow : RowAt w G T t (zs ++ ws) v) (hm : MixI w G h t lo zs.length ws v bl) :
  ∃ b1 : List (List Nat),b1.length = ws.length ∧ (∀ b,v.ownBlock = some b → bl = b :: b1.flatten ∧ (∀ j,j < zs.length → ∃ cs,CellsAt w b (j * t.size) cs ∧ cs.length = t.size ∧ Bor h t (lo + j) cs) ∧
   ∀ j,j < ws.length → ∃ cs,CellsAt w b ((zs.length + j) * t.size) cs ∧ cs.length = t.size ∧ Inn w G t (ws.getD j t.zero) cs (b1.getD j [])) ∧ (v.ownBlock = none → b1 = []):=by
 rcases hm with ⟨e1,_⟩ | ⟨b,e1,bls,e2,h3,h4,h5⟩
 ·refine ⟨[], ?_,fun b hb=>(by rw [e1] at hb; cases hb),fun _=>rfl⟩
  rcases hrow with ⟨_,h⟩ | ⟨b,c,cs,e2,_⟩
  ·have:=(List.append_eq_nil_iff.1 h).2
   rw [this]; rfl
  ·rw [e2] at e1; cases e1
 ·exact ⟨bls,h3,fun b' hb'=>(by rw [e1] at hb'; obtain rfl:=Option.some.inj hb'; exact ⟨e2,h4,h5⟩),fun hn=>(by rw [e1] at hn; cases hn)⟩
theorem mixMore_sound (hΓ : TabOk P Γ) (hR : Rel w0 G0 N F m e tm) {T : Nat} {ti : TI} (hf : find Γ T = some ti) {t : Ty} (ht : SlOf ti.ty t) {id n src q lo : Nat} {zs ws ys : List t.den} {xv : Value} {b2 : List (List Nat)} {ty : TypeId}
  (ho : find e.objs id = some (.mix ti.elem t n src q lo zs ws)) (hsr : SrcI m t ys xv b2) (hl2 : b2.length = ys.length) (hnd2 : b2.flatten.Nodup)
  (hb2 : ∀ b ∈ b2.flatten,Mine w0 b ∧ b < m.w.heap.size ∧ ¬ m.G b ∧ ¬ m.H b ∧ ∀ i,¬ blk (e.objs ++ F) m i b) (hcap : zs.length + ws.length + ys.length ≤ capN) (hfr : ¬ m.D e.next) :
  ∃ m',(Builtin.append_ #[T,T] ty #[m.ν id,xv]).run P m.w = .ok (m'.ν e.next) m'.w ∧ Stp m e m' (Env.new ⟨e.slots,erase e.objs id,e.next⟩ (.mix ti.elem t e.next src q lo zs (ws ++ ys))) ∧
   Rel w0 G0 N F m' (Env.new ⟨e.slots,erase e.objs id,e.next⟩ (.mix ti.elem t e.next src q lo zs (ws ++ ys))) tm ∧ Lv m' (.row e.next) (m'.ν e.next):=by
 obtain ⟨hrow,hmix,hσn,hDn,hDq⟩:=(hR.obj id _ ho).2
 obtain ⟨A,c,news,rfl,hnl,hna,hnv,hn1,hni⟩:=hsr
 obtain ⟨b1,hl1,hb1,hb1n⟩:=hmix.inv hrow
 have hbk : ∀ p ∈ m.σ n,blk (e.objs ++ F) m id p:=fun p hp=>y38q (by unfold blk; rw [ho]; exact hp)
 have hnoid : ∀ p,p ∈ m.σ n → ∀ i,¬ blk (erase (e.objs ++ F) id) m i p:=fun p hp i hi=>by
  unfold blk at hi
  rw [y30q (α:=Nat)] at hi
  by_cases hii : id = i
  ·rw [if_pos hii] at hi; simp at hi
  ·rw [if_neg hii] at hi
   exact hii (hR.ok.inj id i p (hbk p hp) hi)
 have hers : ∀ i p,blk (erase (e.objs ++ F) id) m i p → blk (e.objs ++ F) m i p:=fun i p hi=>by
  unfold blk at hi
  rw [y30q (α:=Nat)] at hi
  by_cases hii : id = i
  ·rw [if_pos hii] at hi; simp at hi
  ·rw [if_neg hii] at hi; exact hi
 have hout : ∀ p ∈ m.σ n,Mine w0 p ∧ p < m.w.heap.size ∧ ¬ m.G p ∧ ¬ m.H p:=fun p hp=>by
  obtain ⟨o1,o2,o3,o4⟩:=hR.ok.out id p (hbk p hp)
  exact ⟨o4,o3,o1,o2⟩
 have hown : ∀ b,(m.ν id).ownBlock = some b → b ∈ m.σ n:=fun b hb=>hmix.head hb
 have hin1 : ∀ p ∈ b1.flatten,p ∈ m.σ n ∧ (m.ν id).ownBlock ≠ some p:=fun p hp=>by
  cases hob : (m.ν id).ownBlock with
  | none=>rw [hb1n hob] at hp; simp at hp
  | some b =>
   have e2:=(hb1 b hob).1
   refine ⟨by rw [e2]; exact List.mem_cons_of_mem _ hp,fun he=>?_⟩
   obtain rfl:=Option.some.inj he
   rw [e2] at hσn
   exact (List.nodup_cons.1 hσn).1 hp
 have hn1' : b1.flatten.Nodup:=by
  cases hob : (m.ν id).ownBlock with
  | none=>rw [hb1n hob]; exact List.nodup_nil
  | some b =>
   rw [(hb1 b hob).1] at hσn
   exact (List.nodup_cons.1 hσn).2
 obtain ⟨v',w',hrun,hA⟩:=append_core (P:=P) (ty:=ty) hΓ hR.ok hf ht (xs:=zs ++ ws) (v:=m.ν id) (c:=c) hrow hnl hna hnv hn1 (by rw [List.length_append]; exact hcap) (by
  intro a k c e1
  obtain ⟨k1,k2,k3,_⟩:=hout a.block (hown a.block (by rw [e1]; rfl))
  exact ⟨k1,k2,k3⟩)
 obtain ⟨hG,hH⟩:=hA.same hR.ok (fun b hb=>⟨(hout b (hown b hb)).2.2.1,(hout b (hown b hb)).2.2.2⟩)
 have hb12 : ∀ p ∈ (b1 ++ b2).flatten,Mine w0 p ∧ p < m.w.heap.size ∧ ¬ m.G p ∧ ¬ m.H p ∧ (∀ i,¬ blk (erase (e.objs ++ F) id) m i p) ∧ (m.ν id).ownBlock ≠ some p:=fun p hp=>by
  rw [List.flatten_append] at hp
  rcases List.mem_append.1 hp with hp | hp
  ·obtain ⟨k1,k2⟩:=hin1 p hp
   obtain ⟨q1,q2,q3,q4⟩:=hout p k1
   exact ⟨q1,q2,q3,q4,hnoid p k1,k2⟩
  ·obtain ⟨q1,q2,q3,q4,q5⟩:=hb2 p hp
   exact ⟨q1,q2,q3,q4,fun i hi=>q5 i (hers i p hi),fun he=>q5 id (hbk p (hown p he))⟩
 have hnd12 : (b1 ++ b2).flatten.Nodup:=by
  rw [List.flatten_append]
  exact List.nodup_append.2 ⟨hn1',hnd2,fun p hp q' hq e=>by subst e; exact (hb2 p hq).2.2.2.2 id (hbk p (hin1 p hp).1)⟩
 have hmono : ∀ (y : t.den) (cs : List Value) (bl : List Nat),(∀ b ∈ bl,b ∈ (b1 ++ b2).flatten) → Inn m.w m.G t y cs bl → Inn w' m.G t y cs bl:=fun y cs bl hb hi =>
  Inn.mono (fun b hg=>⟨hg,hG b hg⟩) t y cs bl (fun b hm=>hA.keep b (hb12 b (hb b hm)).2.1 (hb12 b (hb b hm)).2.2.2.2.2) hi
 obtain ⟨m',hle,hw,hD,hν,hok'⟩:=(hR.ok.erase id).newMix w' ti.elem t src q lo zs (ws ++ ys) v' (match v'.ownBlock with | some b=>b :: (b1 ++ b2).flatten | none=>[]) hA.base hG hH hA.size
  (fun i b hb=>hA.keep b (hR.ok.out i b (hers i b hb)).2.2.1 (fun e=>hnoid b (hown b e) i hb)) (by rw [← List.append_assoc]; exact hA.row) (by
   cases hob : v'.ownBlock with
   | none=>exact .inl ⟨hob,rfl⟩
   | some b' =>
    refine .inr ⟨b',hob,b1 ++ b2,rfl,by simp [hl1,hl2],fun j hj=>?_,fun j hj=>?_⟩
    ·obtain ⟨b,cs,k1,k2,k3,k4⟩:=hA.old b' hob j (by rw [List.length_append]; omega)
     obtain ⟨cs2,q1,q2,q3⟩:=(hb1 b k1).2.1 j hj
     have:=y23q k2 q1 (by omega)
     subst this
     exact ⟨cs,k3,k4,q3⟩
    ·rw [List.length_append] at hj
     by_cases hjw : j < ws.length
     ·obtain ⟨b,cs,k1,k2,k3,k4⟩:=hA.old b' hob (zs.length + j) (by rw [List.length_append]; omega)
      obtain ⟨cs2,q1,q2,q3⟩:=(hb1 b k1).2.2 j hjw
      have:=y23q k2 q1 (by omega)
      subst this
      have e1 : (ws ++ ys).getD j t.zero = ws.getD j t.zero:=by simp [List.getD_eq_getElem?_getD,List.getElem?_append_left hjw]
      have e2 : (b1 ++ b2).getD j [] = b1.getD j []:=by simp [List.getD_eq_getElem?_getD,List.getElem?_append_left (show j < b1.length by omega)]
      rw [e1,e2]
      exact ⟨cs,k3,k4,hmono _ _ _ (fun b hm=>by rw [List.flatten_append]; exact List.mem_append_left _ (y17q hm)) q3⟩
     ·have k1:=hA.new b' hob (j - ws.length) (by omega)
      rw [List.length_append,show zs.length + ws.length + (j - ws.length) = zs.length + j from by omega] at k1
      have e1 : (ws ++ ys).getD j t.zero = ys.getD (j - ws.length) t.zero:=by simp [List.getD_eq_getElem?_getD,List.getElem?_append_right (show ws.length ≤ j by omega)]
      have e2 : (b1 ++ b2).getD j [] = b2.getD (j - ws.length) []:=by simp [List.getD_eq_getElem?_getD,List.getElem?_append_right (show b1.length ≤ j by omega),hl1]
      rw [e1,e2]
      refine ⟨_,k1,(hnv (j - ws.length) (by omega)).length,hmono _ _ _ (fun b hm=>by rw [List.flatten_append]; exact List.mem_append_right _ (y17q hm)) (hni (j - ws.length) (by omega))⟩) (by
   cases hob : v'.ownBlock with
   | none=>exact List.nodup_nil
   | some b' =>
    refine List.nodup_cons.2 ⟨fun hm=>?_,hnd12⟩
    rcases (hA.own b' hob).2 with k | k
    ·exact (hb12 b' hm).2.2.2.2.2 k
    ·have:=(hb12 b' hm).2.1; omega) hDq hfr (fun b hb=>by
   cases hob : v'.ownBlock with
   | none=>rw [hob] at hb; simp at hb
   | some b' =>
    rw [hob] at hb
    rcases List.mem_cons.1 hb with e1 | e1
    ·subst e1
     obtain ⟨k1,k2⟩:=hA.own _ hob
     rcases k2 with k2 | k2
     ·obtain ⟨q1,q2,q3,q4⟩:=hout _ (hown _ k2)
      exact ⟨q1,k1,q3,q4,hnoid _ (hown _ k2)⟩
     ·exact newBlock (hR.ok.erase id) k2 k1
    ·obtain ⟨q1,q2,q3,q4,q5,_⟩:=hb12 b e1
     exact ⟨q1,Nat.lt_of_lt_of_le q2 hA.size,q3,q4,q5⟩)
 have hdj : ∀ i o,find (erase e.objs id) i = some o → find F i = none:=fun i o hf=>by
  rw [y30q (α:=Nat)] at hf
  by_cases hii : id = i
  ·rw [if_pos hii] at hf; simp at hf
  ·rw [if_neg hii] at hf; exact hR.disj i o hf
 have hR2 : Rel w0 G0 N F m ⟨e.slots,erase e.objs id,e.next⟩ tm:=hR.objs (.refl m) _ _ (ObjsOk.congr (hR.ok.erase id) (y93q (hR.disj _ _ ho))) hdj
 refine ⟨m',by rw [hν,hw]; exact hrun, .new hle hD rfl,hR2.push hfr hle _ (ObjsOk.congr hok' fun i=>?_),(hD _).2 (.inr rfl),rfl, ?_⟩
 ·rw [y14q,y14q,y93q (hR.disj _ _ ho)]
 ·rw [hν]; exact hA.sl
theorem mixEnd_sound (hΓ : TabOk P Γ) (hR : Rel w0 G0 N F m e tm) {T : Nat} {ti : TI} (hf : find Γ T = some ti) {t : Ty} (ht : SlOf ti.ty t) {idm id n q lo' lo hi : Nat} {zs ws xs : List t.den} {xv : Value} {ty : TypeId}
  (hm : find e.objs idm = some (.mix ti.elem t n id q lo' zs ws)) (ho : find e.objs id = some (.row ti.elem t q xs)) (hx : Lv m (.rng id t.size lo hi) xv) (hnm : t.noMp = true) (hle0 : lo' + zs.length ≤ lo) (hcap : zs.length + ws.length + (hi - lo) ≤ capN) (hfr : ¬ m.D e.next) :
  ∃ m',(Builtin.append_ #[T,T] ty #[m.ν idm,xv]).run P m.w = .ok (m'.ν e.next) m'.w ∧ Stp m e m' (Env.new ⟨e.slots,erase (erase e.objs idm) id,e.next⟩ (.row ti.elem t e.next ((mixL t zs (xs.drop lo') ++ ws) ++ (xs.take hi).drop lo))) ∧
   Rel w0 G0 N F m' (Env.new ⟨e.slots,erase (erase e.objs idm) id,e.next⟩ (.row ti.elem t e.next ((mixL t zs (xs.drop lo') ++ ws) ++ (xs.take hi).drop lo))) tm ∧ Lv m' (.row e.next) (m'.ν e.next):=by
 have hne : idm ≠ id:=fun h=>by subst h; rw [hm] at ho; cases ho
 obtain ⟨hrow,hmix,hσn,hDn,hDq⟩:=(hR.obj idm _ hm).2
 obtain ⟨s1,s2,s3,s4,s5⟩:=(hR.obj id _ ho).2
 obtain ⟨A,c,news,rfl,hnl,hlen,hlo,hhi,hna,hnv,hn1,hcells⟩:=rngSrc s1 hx
 obtain ⟨b1,hl1,hb1,hb1n⟩:=hmix.inv hrow
 have hS : ∃ bs : List (List Nat),(xs.length ≠ 0 → bs.length = xs.length) ∧ (∀ p ∈ bs.flatten,p ∈ m.σ q) ∧ bs.flatten.Nodup ∧ ∀ b,(m.ν id).ownBlock = some b → ∀ j,j < xs.length → ∃ cs,CellsAt m.w b (j * t.size) cs ∧ cs.length = t.size ∧ Inn m.w m.G t (xs.getD j t.zero) cs (bs.getD j []):=by
  rcases s2 with ⟨e1,_⟩ | ⟨b,e1,bls,e2,k3,k4⟩
  ·refine ⟨[],fun h=>?_,fun p hp=>by simp at hp,List.nodup_nil,fun b hb=>by rw [e1] at hb; cases hb⟩
   rcases s1 with ⟨_,rfl⟩ | ⟨b,c,cs,e2,_⟩
   ·exact absurd rfl h
   ·rw [e2] at e1; cases e1
  ·refine ⟨bls,fun _=>k3,fun p hp=>by rw [e2]; exact List.mem_cons_of_mem _ hp, ?_,fun b' hb'=>by rw [e1] at hb'; obtain rfl:=Option.some.inj hb'; exact k4⟩
   rw [e2] at s3
   exact (List.nodup_cons.1 s3).2
 obtain ⟨bs,hbl,hbs1,hbs2,hbs3⟩:=hS
 have hsown : ∀ j,j < xs.length → ∃ b,(m.ν id).ownBlock = some b:=fun j hj=>by
  rcases s1 with ⟨_,rfl⟩ | ⟨b,c,cs,e1,_⟩
  ·simp at hj
  ·exact ⟨b,by rw [e1]; rfl⟩
 generalize hys : (xs.take hi).drop lo = ys at *
 have hbk : ∀ p ∈ m.σ n,blk (e.objs ++ F) m idm p:=fun p hp=>y38q (by unfold blk; rw [hm]; exact hp)
 have hbkS : ∀ p ∈ m.σ q,blk (e.objs ++ F) m id p:=fun p hp=>y38q (by unfold blk; rw [ho]; exact hp)
 have hers : ∀ i p,blk (erase (erase (e.objs ++ F) idm) id) m i p → i ≠ idm ∧ i ≠ id ∧ blk (e.objs ++ F) m i p:=fun i p hi=>by
  unfold blk at hi
  rw [y30q (α:=Nat),y30q (α:=Nat)] at hi
  by_cases h1 : id = i
  ·rw [if_pos h1] at hi; simp at hi
  ·rw [if_neg h1] at hi
   by_cases h2 : idm = i
   ·rw [if_pos h2] at hi; simp at hi
   ·rw [if_neg h2] at hi
    exact ⟨fun e=>h2 e.symm,fun e=>h1 e.symm,hi⟩
 have hnoid : ∀ p,p ∈ m.σ n → ∀ i,¬ blk (erase (erase (e.objs ++ F) idm) id) m i p:=fun p hp i hi=>(hers i p hi).1 (hR.ok.inj i idm p (hers i p hi).2.2 (hbk p hp))
 have hnoidS : ∀ p,p ∈ m.σ q → ∀ i,¬ blk (erase (erase (e.objs ++ F) idm) id) m i p:=fun p hp i hi=>(hers i p hi).2.1 (hR.ok.inj i id p (hers i p hi).2.2 (hbkS p hp))
 have hout : ∀ p ∈ m.σ n,Mine w0 p ∧ p < m.w.heap.size ∧ ¬ m.G p ∧ ¬ m.H p:=fun p hp=>by
  obtain ⟨o1,o2,o3,o4⟩:=hR.ok.out idm p (hbk p hp)
  exact ⟨o4,o3,o1,o2⟩
 have houtS : ∀ p ∈ m.σ q,Mine w0 p ∧ p < m.w.heap.size ∧ ¬ m.G p ∧ ¬ m.H p:=fun p hp=>by
  obtain ⟨o1,o2,o3,o4⟩:=hR.ok.out id p (hbkS p hp)
  exact ⟨o4,o3,o1,o2⟩
 have hown : ∀ b,(m.ν idm).ownBlock = some b → b ∈ m.σ n:=fun b hb=>hmix.head hb
 have hin1 : ∀ p ∈ b1.flatten,p ∈ m.σ n ∧ (m.ν idm).ownBlock ≠ some p:=fun p hp=>by
  cases hob : (m.ν idm).ownBlock with
  | none=>rw [hb1n hob] at hp; simp at hp
  | some b =>
   have e2:=(hb1 b hob).1
   refine ⟨by rw [e2]; exact List.mem_cons_of_mem _ hp,fun he=>?_⟩
   obtain rfl:=Option.some.inj he
   rw [e2] at hσn
   exact (List.nodup_cons.1 hσn).1 hp
 have hn1' : b1.flatten.Nodup:=by
  cases hob : (m.ν idm).ownBlock with
  | none=>rw [hb1n hob]; exact List.nodup_nil
  | some b =>
   rw [(hb1 b hob).1] at hσn
   exact (List.nodup_cons.1 hσn).2
 obtain ⟨v',w',hrun,hA⟩:=append_core (P:=P) (ty:=ty) hΓ hR.ok hf ht (xs:=zs ++ ws) (v:=m.ν idm) (c:=c) hrow hnl hna hnv hn1 (by rw [List.length_append,hlen]; exact hcap) (by
  intro a k c e1
  obtain ⟨k1,k2,k3,_⟩:=hout a.block (hown a.block (by rw [e1]; rfl))
  exact ⟨k1,k2,k3⟩)
 obtain ⟨hG,hH⟩:=hA.same hR.ok (fun b hb=>⟨(hout b (hown b hb)).2.2.1,(hout b (hown b hb)).2.2.2⟩)
 have hsplit : bs.flatten = (bs.take lo').flatten ++ (((bs.drop lo').take zs.length).flatten ++ ((((bs.drop lo').drop zs.length).take (lo - (lo' + zs.length))).flatten ++ ((((bs.drop lo').drop zs.length).drop (lo - (lo' + zs.length))).take ys.length).flatten ++ ((((bs.drop lo').drop zs.length).drop (lo - (lo' + zs.length))).drop ys.length).flatten)):=by
  simp only [← List.flatten_append,List.take_append_drop,← List.append_assoc,List.append_assoc]
 have hd1 : ((bs.drop lo').drop zs.length).drop (lo - (lo' + zs.length)) = bs.drop lo:=by
  rw [List.drop_drop,List.drop_drop]; congr 1; omega
 rw [hd1] at hsplit
 generalize hbz : (bs.drop lo').take zs.length = bz at hsplit
 generalize hby : (bs.drop lo).take ys.length = bY at hsplit
 have hbzs : ∀ p ∈ bz.flatten,p ∈ bs.flatten:=fun p hp=>by rw [hsplit]; simp [hp]
 have hbys : ∀ p ∈ bY.flatten,p ∈ bs.flatten:=fun p hp=>by rw [hsplit]; simp [hp]
 have hndS : bz.flatten.Nodup ∧ bY.flatten.Nodup ∧ ∀ p ∈ bz.flatten,p ∉ bY.flatten:=by
  rw [hsplit] at hbs2
  have h1:=(List.nodup_append.1 hbs2).2.1
  obtain ⟨h2,h3,h4⟩:=List.nodup_append.1 h1
  have h5:=(List.nodup_append.1 h3).1
  exact ⟨h2,(List.nodup_append.1 h5).2.1,fun p hp hq=>h4 p hp p (by simp [hq]) rfl⟩
 have hbzl : bz.length = zs.length:=by
  by_cases h : zs.length = 0
  ·rw [← hbz,h]; simp
  ·have:=hbl (by omega)
   rw [← hbz,List.length_take,List.length_drop]; omega
 have hbyl : bY.length = ys.length:=by
  by_cases h : ys.length = 0
  ·rw [← hby,h]; simp
  ·have:=hbl (by omega)
   rw [← hby,List.length_take,List.length_drop]; omega
 have hml : (mixL t zs (xs.drop lo')).length = zs.length:=mixL_len (by rw [List.length_drop]; omega)
 have hyg : ∀ j,j < ys.length → ys.getD j t.zero = xs.getD (lo + j) t.zero:=fun j hj=>by
  rw [← hys]
  simp only [List.getD_eq_getElem?_getD,List.getElem?_drop,List.getElem?_take]
  rw [if_pos (by omega)]
 have hxg : ∀ j,(xs.drop lo').getD j t.zero = xs.getD (lo' + j) t.zero:=fun j=>by
  simp only [List.getD_eq_getElem?_getD,List.getElem?_drop]
 have hg1 : ∀ j,j < zs.length → ((mixL t zs (xs.drop lo') ++ ws) ++ ys).getD j t.zero = mixEl t (zs.getD j t.zero) (xs.getD (lo' + j) t.zero):=fun j hj=>by
  rw [← hxg,← mixL_get (d:=t.zero) hj (by rw [List.length_drop]; omega)]
  simp only [List.getD_eq_getElem?_getD]
  rw [List.getElem?_append_left (by rw [List.length_append,hml]; omega),List.getElem?_append_left (by omega)]
 have hg2 : ∀ j,zs.length ≤ j → ((mixL t zs (xs.drop lo') ++ ws) ++ ys).getD j t.zero = ((zs ++ ws) ++ ys).getD j t.zero:=fun j hj=>by
  simp only [List.getD_eq_getElem?_getD,List.append_assoc]
  rw [List.getElem?_append_right (by omega),List.getElem?_append_right hj,hml]
 have hz1 : ∀ j,j < zs.length → ((zs ++ ws) ++ ys).getD j t.zero = zs.getD j t.zero:=fun j hj=>by
  simp only [List.getD_eq_getElem?_getD]
  rw [List.getElem?_append_left (by rw [List.length_append]; omega),List.getElem?_append_left (by omega)]
 have hsrcOut : ∀ p ∈ bs.flatten,Mine w0 p ∧ p < m.w.heap.size ∧ ¬ m.G p ∧ ¬ m.H p ∧ (∀ i,¬ blk (erase (erase (e.objs ++ F) idm) id) m i p) ∧ (m.ν idm).ownBlock ≠ some p:=fun p hp=>by
  obtain ⟨q1,q2,q3,q4⟩:=houtS p (hbs1 p hp)
  exact ⟨q1,q2,q3,q4,hnoidS p (hbs1 p hp),fun he=>hne (hR.ok.inj idm id p (hbk p (hown p he)) (hbkS p (hbs1 p hp)))⟩
 have hall : ∀ p ∈ ((bz ++ b1) ++ bY).flatten,Mine w0 p ∧ p < m.w.heap.size ∧ ¬ m.G p ∧ ¬ m.H p ∧ (∀ i,¬ blk (erase (erase (e.objs ++ F) idm) id) m i p) ∧ (m.ν idm).ownBlock ≠ some p:=fun p hp=>by
  rw [List.flatten_append,List.flatten_append] at hp
  rcases List.mem_append.1 hp with hp | hp
  ·rcases List.mem_append.1 hp with hp | hp
   ·exact hsrcOut p (hbzs p hp)
   ·obtain ⟨k1,k2⟩:=hin1 p hp
    obtain ⟨q1,q2,q3,q4⟩:=hout p k1
    exact ⟨q1,q2,q3,q4,hnoid p k1,k2⟩
  ·exact hsrcOut p (hbys p hp)
 have hdis : ∀ p ∈ bs.flatten,p ∉ b1.flatten:=fun p hp hq=>hne (hR.ok.inj idm id p (hbk p (hin1 p hq).1) (hbkS p (hbs1 p hp)))
 have hndall : ((bz ++ b1) ++ bY).flatten.Nodup:=by
  rw [List.flatten_append,List.flatten_append]
  refine List.nodup_append.2 ⟨List.nodup_append.2 ⟨hndS.1,hn1',fun p hp q' hq e=>?_⟩,hndS.2.1,fun p hp q' hq e=>?_⟩
  ·subst e; exact hdis p (hbzs p hp) hq
  ·subst e
   rcases List.mem_append.1 hp with hp | hp
   ·exact hndS.2.2 p hp hq
   ·exact hdis p (hbys p hq) hp
 have hmono : ∀ (y : t.den) (cs : List Value) (bl : List Nat),(∀ b ∈ bl,b ∈ ((bz ++ b1) ++ bY).flatten) → Inn m.w m.G t y cs bl → Inn w' m.G t y cs bl:=fun y cs bl hb hi =>
  Inn.mono (fun b hg=>⟨hg,hG b hg⟩) t y cs bl (fun b hm=>hA.keep b (hall b (hb b hm)).2.1 (hall b (hb b hm)).2.2.2.2.2) hi
 have hrow' : RowAt w' m.G ti.elem t ((mixL t zs (xs.drop lo') ++ ws) ++ ys) v':=by
  have hl : ((mixL t zs (xs.drop lo') ++ ws) ++ ys).length = ((zs ++ ws) ++ ys).length:=by simp only [List.length_append,hml]
  rcases hA.row with ⟨e1,e2⟩ | ⟨b,c,cs,e1,k1,k2,k3,k4,k5⟩
  ·refine .inl ⟨e1,List.eq_nil_of_length_eq_zero ?_⟩
   rw [hl,e2]; rfl
  ·rw [← hl] at e1 k2 k5
   refine .inr ⟨b,c,cs,e1,k1,k2,k3,k4,fun j hj=>?_⟩
   obtain ⟨cj,q1,q2⟩:=k5 j hj
   refine ⟨cj,q1, ?_⟩
   by_cases hjz : j < zs.length
   ·rw [hg1 j hjz]
    rw [hz1 j hjz] at q2
    exact Val_mix q2
   ·rw [hg2 j (by omega)]; exact q2
 obtain ⟨m',hle,hw,hD,hν,hok'⟩:=((hR.ok.erase idm).erase id).newRow' w' ti.elem t ((mixL t zs (xs.drop lo') ++ ws) ++ ys) v' (match v'.ownBlock with | some b=>b :: ((bz ++ b1) ++ bY).flatten | none=>[]) hA.base hG hH hA.size
  (fun i b hb=>hA.keep b (hR.ok.out i b (hers i b hb).2.2).2.2.1 (fun e=>hnoid b (hown b e) i hb)) hrow' (by
   cases hob : v'.ownBlock with
   | none=>exact .inl ⟨hob,rfl⟩
   | some b' =>
    refine .inr ⟨b',hob,(bz ++ b1) ++ bY,rfl,by simp only [List.length_append,hbzl,hl1,hbyl,hml],fun j hj=>?_⟩
    simp only [List.length_append,hml] at hj
    by_cases hjz : j < zs.length
    ·obtain ⟨b,cs,k1,k2,k3,k4⟩:=hA.old b' hob j (by rw [List.length_append]; omega)
     obtain ⟨cs2,q1,q2,q3⟩:=(hb1 b k1).2.1 j hjz
     have:=y23q k2 q1 (by omega)
     subst this
     obtain ⟨bS,hbS⟩:=hsown (lo' + j) (by omega)
     obtain ⟨ds,r1,r2,r3⟩:=hbs3 bS hbS (lo' + j) (by omega)
     have hB:=Bor.of s4 hbS (by omega) r1 r2
     have e2 : ((bz ++ b1) ++ bY).getD j [] = bs.getD (lo' + j) []:=by
      have e3 : ((bz ++ b1) ++ bY).getD j [] = bz.getD j []:=by
       simp only [List.getD_eq_getElem?_getD]
       rw [List.getElem?_append_left (by rw [List.length_append]; omega),List.getElem?_append_left (by omega)]
      rw [e3,← hbz]
      simp only [List.getD_eq_getElem?_getD,List.getElem?_take,List.getElem?_drop]
      rw [if_pos hjz]
     rw [hg1 j hjz]
     refine ⟨cs,k3,k4,hmono _ _ _ (fun b hm=>y17q hm) ?_⟩
     rw [e2]
     exact Inn_mix hnm r3 k4 r2 fun o hoo=>by rw [q3 o hoo,hB o hoo]
    ·rw [hg2 j (by omega)]
     by_cases hjw : j < zs.length + ws.length
     ·obtain ⟨b,cs,k1,k2,k3,k4⟩:=hA.old b' hob j (by rw [List.length_append]; omega)
      obtain ⟨cs2,q1,q2,q3⟩:=(hb1 b k1).2.2 (j - zs.length) (by omega)
      rw [show zs.length + (j - zs.length) = j from by omega] at q1
      have:=y23q k2 q1 (by omega)
      subst this
      have e1 : ((zs ++ ws) ++ ys).getD j t.zero = ws.getD (j - zs.length) t.zero:=by
       simp only [List.getD_eq_getElem?_getD]
       rw [List.getElem?_append_left (by rw [List.length_append]; omega),List.getElem?_append_right (by omega)]
      have e2 : ((bz ++ b1) ++ bY).getD j [] = b1.getD (j - zs.length) []:=by
       simp only [List.getD_eq_getElem?_getD]
       rw [List.getElem?_append_left (by rw [List.length_append]; omega),List.getElem?_append_right (by omega),hbzl]
      refine ⟨cs,k3,k4,hmono _ _ _ (fun b hm=>y17q hm) ?_⟩
      rw [e1,e2]; exact q3
     ·have k1:=hA.new b' hob (j - (zs.length + ws.length)) (by omega)
      rw [List.length_append,show zs.length + ws.length + (j - (zs.length + ws.length)) = j from by omega] at k1
      obtain ⟨bS,hbS⟩:=hsown (lo + (j - (zs.length + ws.length))) (by omega)
      obtain ⟨ds,r1,r2,r3⟩:=hbs3 bS hbS (lo + (j - (zs.length + ws.length))) (by omega)
      have r4:=hcells bS hbS (j - (zs.length + ws.length)) (by omega)
      have hpl:=(hnv (j - (zs.length + ws.length)) (by omega)).length
      have:=y23q r1 r4 (by omega)
      subst this
      have e1 : ((zs ++ ws) ++ ys).getD j t.zero = ys.getD (j - (zs.length + ws.length)) t.zero:=by
       simp only [List.getD_eq_getElem?_getD]
       rw [List.getElem?_append_right (by rw [List.length_append]; omega),List.length_append]
      have e2 : ((bz ++ b1) ++ bY).getD j [] = bs.getD (lo + (j - (zs.length + ws.length))) []:=by
       have e3 : ((bz ++ b1) ++ bY).getD j [] = bY.getD (j - (zs.length + ws.length)) []:=by
        simp only [List.getD_eq_getElem?_getD]
        rw [List.getElem?_append_right (by rw [List.length_append]; omega),List.length_append,hbzl,hl1]
       rw [e3,← hby]
       simp only [List.getD_eq_getElem?_getD,List.getElem?_take,List.getElem?_drop]
       rw [if_pos (by omega)]
      refine ⟨_,k1,r2,hmono _ _ _ (fun b hm=>y17q hm) ?_⟩
      rw [e1,e2,hyg _ (by omega)]; exact r3) (by
   cases hob : v'.ownBlock with
   | none=>exact List.nodup_nil
   | some b' =>
    refine List.nodup_cons.2 ⟨fun hm=>?_,hndall⟩
    rcases (hA.own b' hob).2 with k | k
    ·exact (hall b' hm).2.2.2.2.2 k
    ·have:=(hall b' hm).2.1; omega) hfr (fun b hb=>by
   cases hob : v'.ownBlock with
   | none=>rw [hob] at hb; simp at hb
   | some b' =>
    rw [hob] at hb
    rcases List.mem_cons.1 hb with e1 | e1
    ·subst e1
     obtain ⟨k1,k2⟩:=hA.own _ hob
     rcases k2 with k2 | k2
     ·obtain ⟨q1,q2,q3,q4⟩:=hout _ (hown _ k2)
      exact ⟨q1,k1,q3,q4,hnoid _ (hown _ k2)⟩
     ·exact newBlock ((hR.ok.erase idm).erase id) k2 k1
    ·obtain ⟨q1,q2,q3,q4,q5,_⟩:=hall b e1
     exact ⟨q1,Nat.lt_of_lt_of_le q2 hA.size,q3,q4,q5⟩)
 have hdj : ∀ i o,find (erase (erase e.objs idm) id) i = some o → find F i = none:=fun i o hf=>by
  rw [y30q (α:=Nat),y30q (α:=Nat)] at hf
  by_cases h1 : id = i
  ·rw [if_pos h1] at hf; simp at hf
  ·rw [if_neg h1] at hf
   by_cases h2 : idm = i
   ·rw [if_pos h2] at hf; simp at hf
   ·rw [if_neg h2] at hf; exact hR.disj i o hf
 have hfe : ∀ i,find (erase (erase e.objs idm) id ++ F) i = find (erase (erase (e.objs ++ F) idm) id) i:=fun i=>by
  rw [y93q (hR.disj _ _ ho),y30q (α:=Nat),y30q (α:=Nat),y93q (hR.disj _ _ hm)]
 have hR2 : Rel w0 G0 N F m ⟨e.slots,erase (erase e.objs idm) id,e.next⟩ tm:=hR.objs (.refl m) _ _ (ObjsOk.congr ((hR.ok.erase idm).erase id) hfe) hdj
 refine ⟨m',by rw [hν,hw]; exact hrun, .new hle hD rfl,hR2.push hfr hle _ (ObjsOk.congr hok' fun i=>?_),(hD _).2 (.inr rfl),rfl, ?_⟩
 ·rw [y14q,y14q,hfe]
 ·rw [hν]; exact hA.sl
end
end Go.Ev
end
section
namespace Go.Ev
open Go.RowKit (Below)
section
variable {P : Program} {w0 : Base} {G0 : Nat → Prop} {N : Nat} {F : List (Nat × Obj)} {m : St} {e : Env} {a : Act} {tm : Array Value} {Γ : Tab} {ρ : Type} {os : List (Nat × Obj)}
theorem Src.of_rng {T id sz lo hi : Nat} {t : Ty} {xs : List t.den} {v : Value} (h : RowAt m.w m.G T t xs (m.ν id)) (hz : sz = t.size) (hl : Lv m (.rng id sz lo hi) v) : Src m t ((xs.take hi).drop lo) v:=by
 obtain ⟨_,hlo,A,n,c,A',c',e1,hn,rfl,hc',hA,_⟩:=hl
 subst hz
 rw [e1] at h
 rcases h with ⟨e,rfl⟩ | ⟨b,c2,cs,e,hh,h1,h2,h3,hx⟩
 ·simp only [Value.slice.injEq] at e
  have h0 : hi - lo = 0:=by omega
  rw [h0]
  exact ⟨A',c',[],by simp,by simp,fun h=>absurd h (by simp),fun j h=>absurd h (by simp),fun u h=>by simp at h⟩
 ·simp only [Value.slice.injEq] at e
  obtain ⟨rfl,rfl,rfl⟩:=e
  have hlen : ((xs.take hi).drop lo).length = hi - lo:=by simp; omega
  by_cases h0 : lo < hi
  ·have hA:=hA h0
   simp only [Option.map_some,y47q,Nat.zero_add] at hA
   subst hA
   obtain ⟨flat,g1,g2,g3,g4⟩:=flat_of (w:=m.w) (sz:=t.size) (fun j cs'=>Val m.w m.G t (((xs.take hi).drop lo).getD j t.zero) cs') b (lo * t.size) (hi - lo) fun j hj=>by
    obtain ⟨cs',k1,k2⟩:=hx (lo + j) (by omega)
    refine ⟨cs',by rw [← Nat.add_mul]; exact k1, ?_,k2.length,Val.oneCells (m:=m) k2⟩
    have : ((xs.take hi).drop lo).getD j t.zero = xs.getD (lo + j) t.zero:=by
     simp only [List.getD_eq_getElem?_getD,List.getElem?_drop,List.getElem?_take]
     rw [if_pos (by omega)]
    rw [this]; exact k2
   refine ⟨_,c',flat,by rw [hlen],by rw [hlen]; exact g1,fun _=>⟨⟨b,lo * t.size,none⟩,rfl,fun j u hu=>?_⟩,fun j hj=>g3 j (by omega),g4⟩
   rw [y47q]
   exact g2 j u hu
  ·have h0 : hi - lo = 0:=by omega
   have hnil : (xs.take hi).drop lo = []:=List.eq_nil_of_length_eq_zero (by omega)
   rw [hnil,h0]
   exact ⟨A',c',[],rfl,by simp,fun h=>absurd h (by simp),fun j h=>absurd h (by simp),fun u h=>by simp at h⟩
theorem source_src (hR : Rel w0 G0 N F m e tm) {x : V} {v : Value} {p : Sigma fun t : Ty=>List t.den} (h : source e x = some p) (hx : Lv m x v) : Src m p.1 p.2 v:=by
 unfold source at h
 cases x with
 | sl t xs =>
  simp only [Option.some.injEq] at h
  subst h
  exact Src.of_val hx
 | row id =>
  obtain ⟨hid,rfl,_⟩:=hx
  simp only at h
  cases ho : e.obj id with
  | none=>simp [ho] at h
  | some o =>
   have hob:=(hR.obj id _ ho).2
   cases o with
   | var vs=>simp [ho] at h
   | mix=>simp [ho] at h
   | map=>simp [ho] at h
   | row T t q xs =>
    simp only [ho,Option.some.injEq] at h
    subst h
    exact Src.of_row hob.1
   | frow t xs =>
    simp only [ho,Option.some.injEq] at h
    subst h
    exact Src.of_val hob
 | rng id sz lo hi =>
  simp only at h
  cases ho : e.obj id with
  | none=>simp [ho] at h
  | some o =>
   have hob:=(hR.obj id _ ho).2
   cases o with
   | var vs=>simp [ho] at h
   | mix=>simp [ho] at h
   | map=>simp [ho] at h
   | row T t q xs =>
    simp only [ho] at h
    cases hz : Nat.beq sz t.size with
    | false=>simp [hz] at h
    | true =>
     simp only [hz,Option.some.injEq] at h
     subst h
     exact Src.of_rng hob.1 (Nat.eq_of_beq_eq_true hz) hx
   | frow t xs =>
    simp only [ho] at h
    cases hz : Nat.beq sz t.size with
    | false=>simp [hz] at h
    | true =>
     simp only [hz,Option.some.injEq] at h
     subst h
     exact Src.of_val (rng_val (Gd:=m.G) hob (Nat.eq_of_beq_eq_true hz).symm hx)
 | _=>simp at h
theorem Src.cast {t u : Ty} {xs : List t.den} {ys : List u.den} {v : Value} (h : cast? (.sl t) (.sl u) xs = some ys) (hs : Src m t xs v) : Src m u ys v:=by
 obtain ⟨e,h⟩:=cast?_some h
 cases e
 subst h
 exact hs
theorem bytes_none (w : World) (src e : TypeId) (hs : P.underlying src = some (.slice e)) (he : P.underlying e = some (.int .u8)) (p : Option Addr) (c : Nat) :
  ∀ dst,P.underlying dst = some .string → (convert src dst (.slice p 0 c)).run P w = .ok (.string ByteArray.empty) w:=by
 intro dst hd
 rw [run_convert_bytes_string w src dst e _ 0 c hs he hd]
 cases p <;> simp [Conv.bytesToString,loadCells]
 all_goals rfl
theorem bytes_back {ys : List Int} {v : Value} (hs : Src m (.int .u8) ys v) {src dst e : TypeId} (h1 : P.underlying src = some (.slice e)) (h2 : P.underlying e = some (.int .u8)) (h3 : P.underlying dst = some .string) :
  ∃ s : ByteArray,(convert src dst v).run P m.w = .ok (.string s) m.w ∧ s.data.toList = (ys.map fun (n : Int)=>UInt8.ofNat n.toNat):=by
 obtain ⟨A,c,news,rfl,hl,ha,hv,_⟩:=hs
 simp only [Ty.size,Nat.mul_one] at hl
 by_cases h0 : 0 < ys.length
 ·obtain ⟨ad,rfl,hc⟩:=ha h0
  have hcell : ∀ i,i < ys.length → m.w.cell? (ad.add i) = some (.int .u8 (ys.getD i 0)):=by
   intro i hi
   have hn : i < news.length:=by omega
   have:=hv i hi
   simp only [Ty.size,Nat.mul_one,Val] at this
   have hg : news[i]? = some (.int .u8 (ys.getD i 0)):=by
    have e1 : ((news.drop i).take 1)[0]? = some (.int .u8 (ys.getD i 0)):=by
     rw [this]; rfl
    simpa using e1
   exact hc i _ hg
  have hload : (loadCells ad ys.length).run P m.w = .ok (ys.map (Value.int .u8)).toArray m.w:=by
   have:=run_loadCells_list (P:=P) m.w ad (ys.map (Value.int .u8)) (fun j v hj=>by
    have hjl : j < ys.length:=by
     rcases Nat.lt_or_ge j ys.length with h | h
     ·exact h
     ·simp [List.getElem?_eq_none (show (ys.map (Value.int .u8)).length ≤ j by simpa using h)] at hj
    rw [hcell j hjl]
    simp [List.getElem?_eq_getElem hjl] at hj
    subst hj
    simp [List.getD,List.getElem?_eq_getElem hjl])
   simpa using this
  refine ⟨_,by rw [run_convert_bytes_string m.w src dst e _ ys.length c h1 h2 h3,run_bytesToString m.w _ ys.length c ys hload,foldl_push_bytes], ?_⟩
  simp [ByteArray.empty,ByteArray.emptyWithCapacity]
  rfl
 ·have : ys = []:=List.eq_nil_of_length_eq_zero (by omega)
  subst this
  exact ⟨ByteArray.empty,bytes_none m.w src e h1 h2 A c dst h3,rfl⟩
theorem bytes_of (hR : Rel w0 G0 N F m e tm) {src dst el : TypeId} {u : TypeDesc} (s : ByteArray) (h1 : P.underlying src = some u) (h2 : P.underlying dst = some (.slice el)) (h3 : P.underlying el = some (.int .u8)) :
  ∃ m' v,(convert src dst (.string s)).run P m.w = .ok v m'.w ∧ m.le m' ∧ m'.D = m.D ∧ Rel w0 G0 N F m' e tm ∧ Lv m' (.sl (.int .u8) (s.data.toList.map fun b=>((b.toNat : Nat) : Int))) v:=by
 have hrun:=Lib.run_convert_string_bytes (P:=P) m.w src dst el s h1 h2 h3
 have hold : ∀ b,b < m.w.heap.size → (Lib.bytesWorld m.w el s).heap[b]? = m.w.heap[b]?:=fun b hb=>Lib.bytesWorld_at_old _ _ _ _ hb
 have hsz:=Lib.bytesWorld_size m.w el s
 let m' : St:={ m with w:=Lib.bytesWorld m.w el s,G:=fun b=>m.G b ∨ b = m.w.heap.size,H:=fun b=>m.H b ∨ b = m.w.heap.size }
 have hle : m.le m':=⟨fun b hb=>⟨.inl hb,hold b (hR.ok.liveG b hb)⟩,fun b hb=>⟨.inl hb,hold b (hR.ok.liveH b hb)⟩,fun _ h=>h,fun _ _=>rfl,fun _ _=>rfl,fun _ _=>rfl,fun _ _=>rfl⟩
 have hbase : Kept w0 m'.w:=by
  refine hR.ok.base.trans ⟨rfl,rfl,rfl,by simp only [m']; omega,fun k hk=>?_⟩
  exact hold k hk
 have hG : ∀ b,(m.G b ∨ b = m.w.heap.size) → (m.G b ∨ m.w.heap.size ≤ b) ∧ b < m'.w.heap.size:=by
  intro b hb
  rcases hb with hb | hb
  ·have:=hR.ok.liveG b hb
   exact ⟨.inl hb,by simp only [m']; omega⟩
  ·exact ⟨.inr (by omega),by simp only [m']; omega⟩
 have hH : ∀ b,(m.H b ∨ b = m.w.heap.size) → (m.H b ∨ m.w.heap.size ≤ b) ∧ b < m'.w.heap.size:=by
  intro b hb
  rcases hb with hb | hb
  ·have:=hR.ok.liveH b hb
   exact ⟨.inl hb,by simp only [m']; omega⟩
  ·exact ⟨.inr (by omega),by simp only [m']; omega⟩
 refine ⟨m',_,hrun,hle,rfl,hR.world hle (hR.ok.world hle hbase (fun i b hb=>hold b (hR.ok.out i b hb).2.2.1) hG hH (by simp only [m']; omega) fun b hb=>hb.imp (hR.ok.gh b) id), ?_⟩
 have hbs:=ba_size s
 refine ⟨_,_,_,rfl,by rw [List.length_map,hbs],grownCap_ge m.w _ 0 el,fun j hj=>?_⟩
 rw [List.length_map] at hj
 refine ⟨_,[.int .u8 ((s.data.toList.getD j 0).toNat : Nat)],rfl,rfl, .inr rfl, ?_, ?_⟩
 ·intro q v hq
  cases q with
  | zero =>
   simp only [List.getElem?_cons_zero,Option.some.injEq] at hq
   subst hq
   have:=Lib.bytesWorld_cell m.w el s j (by omega)
   simpa [Ty.size] using this
  | succ q=>simp at hq
 ·have : (s.data.toList.map fun b=>((b.toNat : Nat) : Int)).getD j 0 = ((s.data.toList.getD j 0).toNat : Nat):=by
   simp [List.getD_eq_getElem?_getD,List.getElem?_eq_getElem hj]
  simp only [Val,Ty.zero]
  rw [this]
theorem conv_sound (hΓ : TabOk P Γ) (hR : Rel w0 G0 N F m e tm) {src dst : Nat} {tj ti : TI} (hs : find Γ src = some tj) (hd : find Γ dst = some ti) {x : V} {v : Value} {K : SV → Env → Option ρ} {r : ρ} (h : evConv tj.ty ti.ty x e K = some r) (hx : Lv m x v) :
  ∃ m' sv z,(convert src dst v).run P m.w = .ok z m'.w ∧ Stp m e m' e ∧ m'.D = m.D ∧ Rel w0 G0 N F m' e tm ∧ Sv m' sv z ∧ K sv e = some r:=by
 have hS:=hΓ _ _ hs
 have hD:=hΓ _ _ hd
 obtain ⟨sd,hsd,_⟩:=hS.under
 unfold evConv at h
 cases hdt : ti.ty with
 | int k =>
  rw [hdt] at h
  cases x with
  | i j n =>
   simp only [Lv] at hx
   subst hx
   have hk:=hD.int k hdt
   refine ⟨m, .one (.i k (k.wrap n)), .int k (k.wrap n), ?_, .refl m e,rfl,hR,rfl,h⟩
   simp [convert,run_underlying hsd,run_underlying hk,Conv.intToInt]
  | _=>simp at h
 | str =>
  rw [hdt] at h
  have hk:=hD.str hdt
  cases hst : tj.ty with
  | str =>
   rw [hst] at h
   cases x with
   | s y =>
    obtain ⟨s,rfl,hy⟩:=hx
    have hk':=hS.str hst
    refine ⟨m, .one (.s y), .string s, ?_, .refl m e,rfl,hR,⟨s,rfl,hy⟩,h⟩
    simp [convert,run_underlying hk',run_underlying hk]
   | _=>simp at h
  | sl t =>
   rw [hst] at h
   cases t with
   | int k =>
    cases k with
    | u8 =>
     simp only at h
     obtain ⟨hu,_,te,hte,htt⟩:=hS.sl _ (.inl hst)
     have he:=(hΓ _ _ hte).int .u8 htt
     by_cases hn : x = .nil
     ·subst hn
      simp only [Lv] at hx
      subst hx
      simp only at h
      exact ⟨m, .one (.s []),_,run_convert_bytes_nil m.w src _ hu he 0 0 dst hk, .refl m e,rfl,hR,⟨_,rfl,rfl⟩,h⟩
     ·have h' : (match source e x with
        | some ⟨t,xs⟩=>match cast? (.sl t) (.sl (.int .u8)) xs with
         | some ys=>K (.one (.s (ys.map fun (n : Int)=>UInt8.ofNat n.toNat))) e
         | none=>none
        | none=>none) = some r:=by
       cases x <;> first | exact h | exact absurd rfl hn
      cases hsrc : source e x with
      | none=>simp [hsrc] at h'
      | some p =>
       obtain ⟨t,xs⟩:=p
       simp only [hsrc] at h'
       cases hc : cast? (.sl t) (.sl (.int .u8)) xs with
       | none=>simp [hc] at h'
       | some ys =>
        simp only [hc] at h'
        have hsr:=Src.cast hc (source_src hR hsrc hx)
        obtain ⟨s,g1,g2⟩:=bytes_back (P:=P) hsr hu he hk
        exact ⟨m, .one (.s (ys.map fun (n : Int)=>UInt8.ofNat n.toNat)),_,g1, .refl m e,rfl,hR,⟨s,rfl,g2⟩,h'⟩
    | _=>simp at h
   | _=>simp at h
  | _=>rw [hst] at h; simp at h
 | sl t =>
  rw [hdt] at h
  cases t with
  | int k =>
   cases k with
   | u8 =>
    simp only at h
    cases hst : tj.ty with
    | str =>
     rw [hst] at h
     cases x with
     | s y =>
      obtain ⟨s,rfl,rfl⟩:=hx
      obtain ⟨hu,_,te,hte,htt⟩:=hD.sl _ (.inl hdt)
      have he:=(hΓ _ _ hte).int .u8 htt
      obtain ⟨m',v,g1,g2,gD,g3,g4⟩:=bytes_of (P:=P) hR s hsd hu he
      refine ⟨m', .one (.sl (.int .u8) (s.data.toList.map fun b=>((b.toNat : Nat) : Int))),v,g1, .same g2 gD rfl,gD,g3, ?_,h⟩
      exact g4
     | _=>simp at h
    | _=>rw [hst] at h; simp at h
   | _=>simp at h
  | _=>simp at h
 | _=>rw [hdt] at h; simp at h
theorem evAppendTo_sound (hΓ : TabOk P Γ) (hR : Rel w0 G0 N F m e tm) {T : Nat} {ti : TI} (hf : find Γ T = some ti) {t : Ty} (ht : SlOf ti.ty t) {s : V} {sv xv : Value} {ty : TypeId} {ys : List t.den} {b2 : List (List Nat)} {K : SV → Env → Option ρ} {r : ρ}
  (h : y76q ti.elem t ys s e K = some r) (hs : Lv m s sv) (hsr : SrcI m t ys xv b2) (hl2 : b2.length = ys.length) (hnd2 : b2.flatten.Nodup)
  (hb2 : ∀ b ∈ b2.flatten,Mine w0 b ∧ b < m.w.heap.size ∧ ¬ m.G b ∧ ¬ m.H b ∧ ∀ i,¬ blk (e.objs ++ F) m i b) (hfr : ¬ m.D e.next) :
  ∃ m' e' u z,(Builtin.append_ #[T,T] ty #[sv,xv]).run P m.w = .ok z m'.w ∧ Stp m e m' e' ∧ Rel w0 G0 N F m' e' tm ∧ Sv m' u z ∧ K u e' = some r:=by
 have row : ∀ (id q : Nat) (u : Ty) (zs : List u.den) (xs : List t.den) (bl : List Nat),find e.objs id = some (.row ti.elem u q zs) → RowAt m.w m.G ti.elem t xs sv → RowIn m.w m.G t xs sv bl → bl.Sublist (m.σ q) → (m.σ q).Nodup → xs.length + ys.length ≤ capN →
   K (.one (.row e.next)) (Env.new ⟨e.slots,erase e.objs id,e.next⟩ (.row ti.elem t e.next (xs ++ ys))) = some r →
   ∃ m' e' u z,(Builtin.append_ #[T,T] ty #[sv,xv]).run P m.w = .ok z m'.w ∧ Stp m e m' e' ∧ Rel w0 G0 N F m' e' tm ∧ Sv m' u z ∧ K u e' = some r:=by
  intro id q u zs xs bl ho hrow hin hsub hσ hcap h
  have hbk : ∀ p ∈ bl,blk (e.objs ++ F) m id p:=fun p hp=>y38q (by unfold blk; rw [ho]; exact hsub.subset hp)
  have hnoid : ∀ p,p ∈ bl → ∀ i,¬ blk (erase (e.objs ++ F) id) m i p:=fun p hp i hi=>by
   unfold blk at hi
   rw [y30q (α:=Nat)] at hi
   by_cases hii : id = i
   ·rw [if_pos hii] at hi; simp at hi
   ·rw [if_neg hii] at hi
    exact hii (hR.ok.inj id i p (hbk p hp) hi)
  have hers : ∀ p,(∀ i,¬ blk (e.objs ++ F) m i p) → ∀ i,¬ blk (erase (e.objs ++ F) id) m i p:=fun p hp i hi=>by
   unfold blk at hi
   rw [y30q (α:=Nat)] at hi
   by_cases hii : id = i
   ·rw [if_pos hii] at hi; simp at hi
   ·rw [if_neg hii] at hi
    exact hp i hi
  have hb1 : ∃ b1 : List (List Nat),b1.length = xs.length ∧ (∀ b,sv.ownBlock = some b → bl = b :: b1.flatten ∧ ∀ j,j < xs.length → ∃ cs,CellsAt m.w b (j * t.size) cs ∧ cs.length = t.size ∧ Inn m.w m.G t (xs.getD j t.zero) cs (b1.getD j [])) ∧ (sv.ownBlock = none → b1 = []):=by
   rcases hin with ⟨e1,_⟩ | ⟨b,e1,bls,e2,h3,h4⟩
   ·refine ⟨[], ?_,fun b hb=>(by rw [e1] at hb; cases hb),fun _=>rfl⟩
    rcases hrow with ⟨_,rfl⟩ | ⟨b,c,cs,e2,_⟩
    ·rfl
    ·rw [e2] at e1; cases e1
   ·exact ⟨bls,h3,fun b' hb'=>(by rw [e1] at hb'; obtain rfl:=Option.some.inj hb'; exact ⟨e2,h4⟩),fun hn=>(by rw [e1] at hn; cases hn)⟩
  obtain ⟨b1,hl1,hb1,hb1n⟩:=hb1
  have hblnd:=hsub.nodup hσ
  have hin1 : ∀ p ∈ b1.flatten,p ∈ bl ∧ sv.ownBlock ≠ some p:=fun p hp=>by
   cases hob : sv.ownBlock with
   | none=>rw [hb1n hob] at hp; simp at hp
   | some b =>
    obtain ⟨e2,_⟩:=hb1 b hob
    refine ⟨by rw [e2]; exact List.mem_cons_of_mem _ hp,fun he=>?_⟩
    obtain rfl:=Option.some.inj he
    rw [e2] at hblnd
    exact (List.nodup_cons.1 hblnd).1 hp
  have hownbl : ∀ b,sv.ownBlock = some b → b ∈ bl:=fun b hb=>by rw [(hb1 b hb).1]; exact List.mem_cons_self
  have hn1 : b1.flatten.Nodup:=by
   cases hob : sv.ownBlock with
   | none=>rw [hb1n hob]; exact List.nodup_nil
   | some b =>
    rw [(hb1 b hob).1] at hblnd
    exact (List.nodup_cons.1 hblnd).2
  have hout : ∀ p ∈ bl,Mine w0 p ∧ p < m.w.heap.size ∧ ¬ m.G p ∧ ¬ m.H p:=fun p hp=>by
   obtain ⟨o1,o2,o3,o4⟩:=hR.ok.out id p (hbk p hp)
   exact ⟨o4,o3,o1,o2⟩
  obtain ⟨m',g1,g2,g3,g4,g5⟩:=y128q (P:=P) (ty:=ty) hΓ (hR.ok.erase id) hf ht hrow (fun b hb=>(hb1 b hb).2) hsr hl1 hl2 hcap (by
   intro ad n c e1
   have hp:=hownbl ad.block (by rw [e1]; rfl)
   obtain ⟨o1,o2,o3,o4⟩:=hout _ hp
   exact ⟨o1,o2,o3,o4,hnoid _ hp⟩) (by
   rw [List.flatten_append]
   refine List.nodup_append.2 ⟨hn1,hnd2,fun p hp q' hq e=>?_⟩
   subst e
   exact (hb2 p hq).2.2.2.2 id (hbk p (hin1 p hp).1)) (by
   intro p hp
   rw [List.flatten_append] at hp
   rcases List.mem_append.1 hp with hp | hp
   ·obtain ⟨o1,o2,o3,o4⟩:=hout p (hin1 p hp).1
    exact ⟨o1,o2,o3,o4,hnoid p (hin1 p hp).1,(hin1 p hp).2⟩
   ·obtain ⟨o1,o2,o3,o4,o5⟩:=hb2 p hp
    exact ⟨o1,o2,o3,o4,hers p o5,fun he=>o5 id (hbk p (hownbl p he))⟩) hfr
  have hdj : ∀ i o,find (erase e.objs id) i = some o → find F i = none:=fun i o hf=>by
   rw [y30q (α:=Nat)] at hf
   by_cases hii : id = i
   ·rw [if_pos hii] at hf; simp at hf
   ·rw [if_neg hii] at hf; exact hR.disj i o hf
  have hR2 : Rel w0 G0 N F m ⟨e.slots,erase e.objs id,e.next⟩ tm:=hR.objs (.refl m) _ _ (ObjsOk.congr (hR.ok.erase id) (y93q (hR.disj _ _ ho))) hdj
  refine ⟨m',_, .one (.row e.next),_,g1, .new g2 g3 rfl,hR2.push hfr g2 _ (ObjsOk.congr g5 fun i=>?_),⟨(g3 _).2 (.inr rfl),rfl,g4⟩,h⟩
  rw [y14q,y14q,y93q (hR.disj _ _ ho)]
 unfold y76q at h
 cases s with
 | nil =>
  simp only [Lv] at hs
  subst hs
  simp only at h
  obtain ⟨hcap,h⟩:=y25q h
  obtain ⟨m',g1,g2,g3,g4,g5⟩:=y128q (P:=P) hΓ hR.ok hf ht (xs:=[]) (b1:=[]) (ty:=ty) (.inl ⟨rfl,rfl⟩) (fun b hb=>by cases hb) hsr rfl hl2 (by simpa using hcap) (by intro a n c e; simp at e) (by simpa using hnd2) (fun b hb=>by
   obtain ⟨o1,o2,o3,o4,o5⟩:=hb2 b (by simpa using hb)
   exact ⟨o1,o2,o3,o4,o5,by simp [Value.ownBlock]⟩) hfr
  exact ⟨m',_, .one (.row e.next),_,g1, .new g2 g3 rfl,hR.push hfr g2 _ g5,⟨(g3 _).2 (.inr rfl),rfl,g4⟩,h⟩
 | row id =>
  obtain ⟨hid,rfl,_⟩:=hs
  simp only at h
  cases ho : e.obj id with
  | none=>simp [ho] at h
  | some o =>
   cases o with
   | row U u q zs =>
    simp only [ho] at h
    have hob:=(hR.obj id _ ho).2
    cases hU : Nat.beq U ti.elem with
    | false=>simp [hU] at h
    | true =>
     have hU':=Nat.eq_of_beq_eq_true hU
     subst hU'
     cases hc2 : cast? (.sl u) (.sl t) zs with
     | none=>simp [hU,hc2] at h
     | some ws =>
      simp only [hU,hc2] at h
      obtain ⟨hcap,h⟩:=y25q h
      obtain ⟨e1,e2⟩:=cast?_some hc2
      cases e1
      subst e2
      exact row id q _ zs zs _ ho hob.1 hob.2.1 (.refl _) hob.2.2.1 hcap h
   | mix U u n src q lo zs ws =>
    simp only [ho] at h
    cases hU : Nat.beq U ti.elem with
    | false=>simp [hU] at h
    | true =>
     have hU':=Nat.eq_of_beq_eq_true hU
     subst hU'
     cases hc1 : cast? (.sl u) (.sl t) zs with
     | none=>simp [hU,hc1] at h
     | some zs1 =>
      cases hc2 : cast? (.sl u) (.sl t) ws with
      | none=>simp [hU,hc1,hc2] at h
      | some ws1 =>
       simp only [hU,hc1,hc2] at h
       obtain ⟨hcap,h⟩:=y25q h
       obtain ⟨e1,e2⟩:=cast?_some hc1
       cases e1
       subst e2
       obtain ⟨_,e2⟩:=cast?_some hc2
       subst e2
       obtain ⟨m',g1,g2,g3,g4⟩:=mixMore_sound (P:=P) (ty:=ty) hΓ hR hf ht (show find e.objs id = _ from ho) hsr hl2 hnd2 hb2 hcap hfr
       exact ⟨m',_, .one (.row e.next),_,g1,g2,g3,g4,h⟩
   | _=>simp [ho] at h
 | rng id sz lo hi =>
  simp only at h
  cases ho : e.obj id with
  | none=>simp [ho] at h
  | some o =>
   cases o with
   | row U u q zs =>
    simp only [ho] at h
    have hob:=(hR.obj id _ ho).2
    cases hU : Nat.beq U ti.elem && Nat.beq sz u.size with
    | false=>simp [hU] at h
    | true =>
     have hU2:=Bool.and_eq_true_iff.1 hU
     have hU':=Nat.eq_of_beq_eq_true hU2.1
     subst hU'
     cases hc2 : cast? (.sl u) (.sl t) zs with
     | none=>simp [hU,hc2] at h
     | some ws =>
      simp only [hU,hc2] at h
      obtain ⟨hlo,h7⟩:=y25q h
      obtain ⟨hcap,h8⟩:=y25q h7
      clear h h7
      obtain ⟨e1,e2⟩:=cast?_some hc2
      cases e1
      subst e2
      subst hlo
      obtain ⟨r1,⟨bl,r2,r3⟩,r4⟩:=rng_row hob hs
      exact row id q _ zs (zs.take hi) bl ho r1 r2 r3 hob.2.2.1 (by rw [List.length_take,Nat.min_eq_left r4]; exact hcap) h8
   | _=>simp [ho] at h
 | _=>simp at h
theorem evAppend_sound (hΓ : TabOk P Γ) (hR : Rel w0 G0 N F m e tm) {T : Nat} {s x : V} {sv xv : Value} {ty : TypeId} {K : SV → Env → Option ρ} {r : ρ} (h : evAppend Γ T s x e K = some r) (hs : Lv m s sv) (hx : Lv m x xv) (hfr : ¬ m.D e.next) :
  ∃ m' e' u z,(Builtin.append_ #[T,T] ty #[sv,xv]).run P m.w = .ok z m'.w ∧ Stp m e m' e' ∧ Rel w0 G0 N F m' e' tm ∧ Sv m' u z ∧ K u e' = some r:=by
 unfold evAppend at h
 cases hf : find Γ T with
 | none=>simp [hf] at h
 | some ti =>
  simp only [hf] at h
  cases hj : find Γ ti.elem with
  | none=>simp [hj] at h
  | some tj =>
   simp only [hj] at h
   cases ht1 : isSl ti.ty tj.ty with
   | false=>simp [ht1] at h
   | true =>
    simp only [ht1] at h
    have ht':=isSl_of ht1
    cases hno : tj.ty.noOwn with
    | true =>
     simp only [hno] at h
     cases hsrc : source e x with
     | none=>simp [hsrc] at h
     | some p =>
      obtain ⟨t,xs⟩:=p
      simp only [hsrc] at h
      cases hc : cast? (.sl t) (.sl tj.ty) xs with
      | none=>simp [hc] at h
      | some ys =>
       simp only [hc] at h
       have hsr:=(Src.cast hc (source_src hR hsrc hx)).inn hno
       exact evAppendTo_sound hΓ hR hf ht' h hs hsr (by simp) (by rw [y52q]; exact List.nodup_nil) (fun b hb=>by rw [y52q] at hb; simp at hb) hfr
    | false =>
     simp only [hno] at h
     cases x with
     | row id =>
      simp only at h
      cases ho : e.obj id with
      | none=>simp [ho] at h
      | some o =>
       cases o with
       | row U u q ys0 =>
        simp only [ho] at h
        cases hc : cast? (.sl u) (.sl tj.ty) ys0 with
        | none=>simp [hc] at h
        | some ys =>
         simp only [hc] at h
         obtain ⟨e1,e2⟩:=cast?_some hc
         cases e1
         subst e2
         obtain ⟨h1,h2,h3,_⟩:=(hR.obj id _ ho).2
         obtain ⟨_,rfl,_⟩:=hx
         have ho' : find e.objs id = some (.row U tj.ty q ys0):=ho
         have hbk : ∀ p ∈ m.σ q,blk (e.objs ++ F) m id p:=fun p hp=>y38q (by unfold blk; rw [ho']; exact hp)
         have hb : ∃ b2 : List (List Nat),b2.length = ys0.length ∧ (∀ p ∈ b2.flatten,p ∈ m.σ q) ∧ b2.flatten.Nodup ∧ ∀ b,(m.ν id).ownBlock = some b → ∀ j,j < ys0.length → ∃ cs,CellsAt m.w b (j * tj.ty.size) cs ∧ cs.length = tj.ty.size ∧ Inn m.w m.G tj.ty (ys0.getD j tj.ty.zero) cs (b2.getD j []):=by
          rcases h2 with ⟨e1,_⟩ | ⟨b,e1,bls,e2,k3,k4⟩
          ·refine ⟨[], ?_,fun p hp=>by simp at hp,List.nodup_nil,fun b hb=>by rw [e1] at hb; cases hb⟩
           rcases h1 with ⟨_,rfl⟩ | ⟨b,c,cs,e2,_⟩
           ·rfl
           ·rw [e2] at e1; cases e1
          ·refine ⟨bls,k3,fun p hp=>by rw [e2]; exact List.mem_cons_of_mem _ hp, ?_,fun b' hb'=>by rw [e1] at hb'; obtain rfl:=Option.some.inj hb'; exact k4⟩
           rw [e2] at h3
           exact (List.nodup_cons.1 h3).2
         obtain ⟨b2,k1,k2,k3,k4⟩:=hb
         have hdj : ∀ i o,find (erase e.objs id) i = some o → find F i = none:=fun i o hf=>by
          rw [y30q (α:=Nat)] at hf
          by_cases hii : id = i
          ·rw [if_pos hii] at hf; simp at hf
          ·rw [if_neg hii] at hf; exact hR.disj i o hf
         have hR2 : Rel w0 G0 N F m ⟨e.slots,erase e.objs id,e.next⟩ tm:=hR.objs (.refl m) _ _ (ObjsOk.congr (hR.ok.erase id) (y93q (hR.disj _ _ ho'))) hdj
         obtain ⟨m',e',u,z,r1,r2,r3⟩:=evAppendTo_sound (ty:=ty) hΓ hR2 hf ht' h hs (SrcI.of_row (b0:=0) h1 k4) k1 k3 (fun p hp=>by
          obtain ⟨o1,o2,o3,o4⟩:=hR.ok.out id p (hbk p (k2 p hp))
          refine ⟨o4,o3,o1,o2,fun i hi=>?_⟩
          have hi' : blk (erase (e.objs ++ F) id) m i p:=by
           unfold blk at hi ⊢
           rw [← y93q (hR.disj _ _ ho')]
           exact hi
          unfold blk at hi'
          rw [y30q (α:=Nat)] at hi'
          by_cases hii : id = i
          ·rw [if_pos hii] at hi'; simp at hi'
          ·rw [if_neg hii] at hi'
           exact hii (hR.ok.inj id i p (hbk p (k2 p hp)) hi')) hfr
         exact ⟨m',e',u,z,r1,⟨r2.le,r2.D,r2.next,r2.most,r2.slots⟩,r3⟩
       | _=>simp [ho] at h
     | rng id sz lo hi =>
      simp only at h
      cases s with
      | row idm =>
       simp only at h
       cases ho : e.obj id with
       | none=>simp [ho] at h
       | some o =>
        cases o with
        | row U u q ys0 =>
         cases hm : e.obj idm with
         | none=>simp [ho,hm] at h
         | some om =>
          cases om with
          | mix V v n src q' lo' zs ws =>
           simp only [ho,hm] at h
           cases hc0 : (Nat.beq U ti.elem && Nat.beq V ti.elem && Nat.beq sz u.size && Nat.beq src id && Nat.beq q q' && tj.ty.noMp) with
           | false=>simp [hc0] at h
           | true =>
            cases hc1 : cast? (.sl u) (.sl tj.ty) ys0 with
            | none=>simp [hc0,hc1] at h
            | some xs =>
             cases hc2 : cast? (.sl v) (.sl tj.ty) zs with
             | none=>simp [hc0,hc1,hc2] at h
             | some zs1 =>
              cases hc3 : cast? (.sl v) (.sl tj.ty) ws with
              | none=>simp [hc0,hc1,hc2,hc3] at h
              | some ws1 =>
               simp only [hc0,hc1,hc2,hc3] at h
               obtain ⟨hle,h1⟩:=y25q h
               obtain ⟨hcap,h2⟩:=y25q h1
               clear h h1
               simp only [Bool.and_eq_true] at hc0
               obtain ⟨⟨⟨⟨⟨k1,k2⟩,k3⟩,k4⟩,k5⟩,knm⟩:=hc0
               have k1:=Nat.eq_of_beq_eq_true k1
               have k2:=Nat.eq_of_beq_eq_true k2
               have k3:=Nat.eq_of_beq_eq_true k3
               have k4:=Nat.eq_of_beq_eq_true k4
               have k5:=Nat.eq_of_beq_eq_true k5
               obtain ⟨e1,e2⟩:=cast?_some hc1
               cases e1
               subst e2
               obtain ⟨e1,e2⟩:=cast?_some hc2
               cases e1
               subst e2
               obtain ⟨_,e2⟩:=cast?_some hc3
               subst e2
               subst k1; subst k3; subst k4; subst k5
               have hm' : find e.objs idm = some (.mix ti.elem tj.ty n src q lo' zs ws):=by rw [k2] at hm; exact hm
               obtain ⟨_,rfl,_⟩:=hs
               obtain ⟨m',g1,g2,g3,g4⟩:=mixEnd_sound (P:=P) (ty:=ty) hΓ hR hf ht' hm' (show find e.objs src = _ from ho) hx knm hle hcap hfr
               exact ⟨m',_, .one (.row e.next),_,g1,g2,g3,g4,h2⟩
          | _=>simp [ho,hm] at h
        | _ =>
         cases hm : e.obj idm with
         | none=>simp [ho,hm] at h
         | some om=>cases om <;> simp [ho,hm] at h
      | _=>simp at h
     | _=>simp at h
theorem evAppendN_sound (hΓ : TabOk P Γ) (hR : Rel w0 G0 N F m e tm) {T : Nat} {x : V} {xv : Value} {ty : TypeId} {K : SV → Env → Option ρ} {r : ρ} (h : evAppendN Γ T x e K = some r) (hx : Lv m x xv) (hfr : ¬ m.D e.next) :
  ∃ m' e' u z,(Builtin.append_ #[T,T] ty #[.slice none 0 0,xv]).run P m.w = .ok z m'.w ∧ Stp m e m' e' ∧ (∀ i,i ≠ e.next → find e'.objs i = find e.objs i) ∧ Rel w0 G0 N F m' e' tm ∧ Sv m' u z ∧ K u e' = some r:=by
 have fresh : ∀ o : Obj,∀ i,i ≠ e.next → find (e.new o).objs i = find e.objs i:=fun o i hi=>by
  show find ((e.next,o) :: e.objs) i = _
  rw [y14q,if_neg (fun h=>hi h.symm)]
 unfold evAppendN at h
 cases hf : find Γ T with
 | none=>simp [hf] at h
 | some ti =>
  simp only [hf] at h
  cases hj : find Γ ti.elem with
  | none=>simp [hj] at h
  | some tj =>
   simp only [hj] at h
   cases ht1 : isSl ti.ty tj.ty with
   | false=>simp [ht1] at h
   | true =>
    simp only [ht1] at h
    have ht':=isSl_of ht1
    cases hno : tj.ty.noOwn with
    | true =>
     simp only [hno] at h
     cases hsrc : source e x with
     | none=>simp [hsrc] at h
     | some p =>
      obtain ⟨t,xs⟩:=p
      simp only [hsrc] at h
      cases hc : cast? (.sl t) (.sl tj.ty) xs with
      | none=>simp [hc] at h
      | some ys =>
       simp only [hc,y76q] at h
       obtain ⟨hcap,h⟩:=y25q h
       have hsr:=(Src.cast hc (source_src hR hsrc hx)).inn hno
       obtain ⟨m',g1,g2,g3,g4,g5⟩:=y128q (P:=P) hΓ hR.ok hf ht' (xs:=[]) (b1:=[]) (ty:=ty) (.inl ⟨rfl,rfl⟩) (fun b hb=>by cases hb) hsr rfl (by simp) (by simpa using hcap) (by intro a n c e; simp at e) (by rw [List.nil_append,y52q]; exact List.nodup_nil) (fun b hb=>by
        rw [List.nil_append,y52q] at hb; simp at hb) hfr
       exact ⟨m',_, .one (.row e.next),_,g1, .new g2 g3 rfl,fresh _,hR.push hfr g2 _ g5,⟨(g3 _).2 (.inr rfl),rfl,g4⟩,h⟩
    | false =>
     simp only [hno] at h
     cases x with
     | rng id sz lo hi =>
      simp only at h
      cases ho : e.obj id with
      | none=>simp [ho] at h
      | some o =>
       cases o with
       | row U u q ys0 =>
        simp only [ho] at h
        cases hc0 : (Nat.beq U ti.elem && Nat.beq sz u.size) with
        | false=>simp [hc0] at h
        | true =>
         cases hc : cast? (.sl u) (.sl tj.ty) ys0 with
         | none=>simp [hc0,hc] at h
         | some xs =>
          simp only [hc0,hc] at h
          obtain ⟨hcap,h1⟩:=y25q h
          clear h
          simp only [Bool.and_eq_true] at hc0
          obtain ⟨k1,k3⟩:=hc0
          have k1:=Nat.eq_of_beq_eq_true k1
          have k3:=Nat.eq_of_beq_eq_true k3
          obtain ⟨e1,e2⟩:=cast?_some hc
          cases e1
          subst e2
          subst k1; subst k3
          obtain ⟨m',g1,g2,g3,g4⟩:=mixNew_sound (P:=P) (ty:=ty) hΓ hR hf ht' (show find e.objs id = _ from ho) hx hcap hfr
          exact ⟨m',_, .one (.row e.next),_,g1,g2,fresh _,g3,g4,h1⟩
       | _=>simp [ho] at h
     | _=>simp at h
end
end Go.Ev
end
section
namespace Go.Proofs
open Go.RowKit Go.Sort
section
variable {P : Program} {α : Type} [Inhabited α] {enc : α → List Value} {k : Nat} {w0 W : World} {blk off : Nat} {dk : Array α}
abbrev dat (g : Nat) (lb : Array Value) (sf : Nat) (sb : Array Value) : Array Value:=#[.func (.func g) #[] lb, .func (.func sf) #[] sb]
def SWB (enc : α → List Value) (k : Nat) (w0 : World) (blk off : Nat) (dk : Array α) (W : World) : Prop:=Below w0.heap.size (putRowK enc k w0 blk off dk) W
theorem SWB.start (h : HoldsK enc k w0 blk off dk) : SWB enc k w0 blk off dk w0:=by
 unfold SWB; rw [putRowK_self enc k w0 blk off dk h]; exact Below.refl _ _
theorem SWB.le (h : SWB enc k w0 blk off dk W) : w0.heap.size ≤ W.heap.size:=by
 have:=Below.size h; rwa [size_putRowK] at this
theorem SWB.lt (h : SWB enc k w0 blk off dk W) (hblk : blk < w0.heap.size) : blk < W.heap.size:=Nat.lt_of_lt_of_le hblk h.le
theorem SWB.below {W' : World} (h : SWB enc k w0 blk off dk W) (hb : Below W.heap.size W W') : SWB enc k w0 blk off dk W':=Below.trans h (hb.mono h.le)
theorem SWB.drewN (h : SWB enc k w0 blk off dk W) (q : Nat) : SWB enc k w0 blk off dk (W.drewN q):=Below.trans h ⟨rfl,rfl,rfl,Nat.le_refl _,fun _ _=>rfl⟩
theorem SWB.alloc (h : SWB enc k w0 blk off dk W) (o : Obj) : SWB enc k w0 blk off dk (W.alloc o):=Below.alloc h h.le o
theorem holds_of_block {β : Type} [Inhabited β] {e : β → Value} {w w' : World} {b o : Nat} {d : Array β} (hb : w'.heap[b]? = w.heap[b]?) (h : Holds e w b o d) : Holds e w' b o d:=fun j hj=>by
 rw [World.cell?_of_block (w:=w) (a:=⟨b,o + j,none⟩) hb,World.frozen?_of_block (w:=w) (a:=⟨b,o + j,none⟩) hb]; exact h j hj
theorem SWB.holds (h : SWB enc k w0 blk off dk W) (hblk : blk < w0.heap.size) {d0 : Array α} (h0 : HoldsK enc k w0 blk off d0) (hs : dk.size = d0.size) : HoldsK enc k W blk off dk :=
 holds_of_block (Below.block h blk hblk) (holdsK_putRowK enc k w0 blk off d0 dk h0 hs)
theorem heap_setCell_congr {w x : World} {b : Nat} (h : w.heap[b]? = x.heap[b]?) (a : Addr) (v : Value) : (w.setCell a v).heap[b]? = (x.setCell a v).heap[b]?:=by
 simp only [World.setCell,Array.getElem?_modify,h]
theorem y67q (blk : Nat) : ∀ (vs : List Value) (o : Nat) (w x : World) (b : Nat),w.heap[b]? = x.heap[b]? → (w.setCells blk o vs).heap[b]? = (x.setCells blk o vs).heap[b]?
 | [],_,_,_,_,h=>h
 | v :: r,o,w,x,b,h=>y67q blk r (o + 1) _ _ b (heap_setCell_congr h _ v)
theorem y95q (blk : Nat) : ∀ (vs : List Value) (o : Nat) (w : World),(w.setCells blk o vs).os = w.os ∧ (w.setCells blk o vs).tape = w.tape ∧ (w.setCells blk o vs).output = w.output ∧ (w.setCells blk o vs).heap.size = w.heap.size
 | [],_,_=>⟨rfl,rfl,rfl,rfl⟩
 | v :: r,o,w=>by
  obtain ⟨h1,h2,h3,h4⟩:=y95q blk r (o + 1) (w.setCell ⟨blk,o,none⟩ v)
  exact ⟨h1,h2,h3,h4.trans (by simp [World.setCell])⟩
theorem SWB.swap (h : SWB enc k w0 blk off dk W) (hk : ∀ x,(enc x).length = k) (hblk : blk < w0.heap.size) (i j : Nat) (hi : i < dk.size) (hj : j < dk.size) :
  SWB enc k w0 blk off (swp dk i j) ((W.setCells blk (off + i * k) (enc dk[j]!)).setCells blk (off + j * k) (enc dk[i]!)):=by
 unfold SWB
 rw [← putRowK_swp enc k hk w0 blk off dk i j hi hj]
 obtain ⟨a1,a2,a3,a4⟩:=y95q blk (enc dk[j]!) (off + i * k) W
 obtain ⟨b1,b2,b3,b4⟩:=y95q blk (enc dk[i]!) (off + j * k) (W.setCells blk (off + i * k) (enc dk[j]!))
 obtain ⟨c1,c2,c3,c4⟩:=y95q blk (enc dk[j]!) (off + i * k) (putRowK enc k w0 blk off dk)
 obtain ⟨d1,d2,d3,d4⟩:=y95q blk (enc dk[i]!) (off + j * k) ((putRowK enc k w0 blk off dk).setCells blk (off + i * k) (enc dk[j]!))
 refine ⟨?_, ?_, ?_, ?_,fun b hb=>y67q _ _ _ _ _ _ (y67q _ _ _ _ _ _ (Below.block h b hb))⟩
 ·rw [b1,a1,d1,c1]; exact Below.os h
 ·rw [b2,a2,d2,c2]; exact Below.tape h
 ·rw [b3,a3,d3,c3]; exact Below.output h
 ·rw [b4,a4,d4,c4]; exact Below.size h
theorem heap_putRowK_congr {w x : World} {b : Nat} (h : w.heap[b]? = x.heap[b]?) (d : Array α) : (putRowK enc k w blk off d).heap[b]? = (putRowK enc k x blk off d).heap[b]?:=by
 simp only [putRowK,putRow,mapBlock,Array.getElem?_modify,h]
theorem putRowK_putRowK (w : World) (d d' : Array α) (h : d'.size = d.size) : putRowK enc k (putRowK enc k w blk off d) blk off d' = putRowK enc k w blk off d':=putRow_putRow id w blk off _ _ (by simp [h])
theorem swb_down {w W' : World} {d : Array α} (hblk : blk < w.heap.size) (h : SWB enc k w blk off d W) (h' : SWB enc k W blk off dk W') (hs : dk.size = d.size) : SWB enc k w blk off dk W':=by
 have g' : Below W.heap.size (putRowK enc k W blk off dk) W':=h'
 have g : Below w.heap.size (putRowK enc k w blk off d) W:=h
 have e1:=g'.os; have e2:=g.os; have e3:=g'.tape; have e4:=g.tape; have e5:=g'.output; have e6:=g.output
 change W'.os = W.os at e1; change W.os = w.os at e2; change W'.tape = W.tape at e3; change W.tape = w.tape at e4; change W'.output = W.output at e5; change W.output = w.output at e6
 refine ⟨e1.trans e2,e3.trans e4,e5.trans e6, ?_,fun b hb=>?_⟩
 ·rw [size_putRowK]; exact Nat.le_trans h.le (SWB.le h')
 ·rw [Below.block h' b (Nat.lt_of_lt_of_le hb h.le),heap_putRowK_congr (Below.block h b hb),putRowK_putRowK _ _ _ hs]
theorem swb_data {w wr : World} {cs : Array Value} {T : Nat} (hblk : blk < w.heap.size) (h : SWB enc k (w.alloc (.cells cs T)) blk off dk wr) (kk : Nat) (v : Value)
  (hv : (w.alloc (.cells cs T)).cell? ⟨w.heap.size,kk,none⟩ = some v) : wr.cell? ⟨w.heap.size,kk,none⟩ = some v:=by
 have hlt : w.heap.size < (w.alloc (.cells cs T)).heap.size:=by rw [alloc_eq_grow,size_grow]; simp
 rw [Below.cell h (p:=⟨w.heap.size,kk,none⟩) hlt,cell?_putRowK_other enc k _ blk off dk _ (by show w.heap.size ≠ blk; omega)]
 exact hv
def LessB (P : Program) (g : Nat) (lb : Array Value) (enc : α → List Value) (k : Nat) (lt : α → α → Bool) (blk off size : Nat) (w0 : World) : Prop :=
 ∀ (W : World) (dk : Array α),SWB enc k w0 blk off dk W → dk.size = size → ∀ i j : Nat,i < size → j < size →
  Calls P g (#[.int .i64 i, .int .i64 j] ++ lb) W fun e w'=>e = .returned (.bool (lt dk[i]! dk[j]!)) ∧ Below W.heap.size W w'
theorem SWB.less {g : Nat} {lb : Array Value} {lt : α → α → Bool} {size : Nat} (h : SWB enc k w0 blk off dk W) (hL : LessB P g lb enc k lt blk off size w0) (hs : dk.size = size) (i j : Nat) (hi : i < size) (hj : j < size) :
  Calls P g (#[.int .i64 i, .int .i64 j] ++ lb) W fun e w'=>e = .returned (.bool (lt dk[i]! dk[j]!)) ∧ Below W.heap.size W w':=hL W dk h hs i j hi hj
theorem SWB.lessReads {g : Nat} {lb : Array Value} {lt : α → α → Bool} {size : Nat} (h : SWB enc k w0 blk off dk W) (hL : LessB P g lb enc k lt blk off size w0) (hblk : blk < w0.heap.size) (hs : dk.size = size) : LessB P g lb enc k lt blk off size W :=
 fun W' dk' h' hs'=>hL W' dk' (swb_down hblk h h' (hs'.trans hs.symm)) hs'
end
end Go.Proofs
end
section
namespace Go.Ev
open Go.RowKit (Below)
open Go.Sort (HoldsK)
open Go.Proofs (LessB SWB)
structure StableOk (P : Program) (f T : Nat) : Prop where
 many : ∃ U ie,P.underlying T = some (.slice U) ∧ P.info? U = some ie ∧ ∀ {α : Type} [Inhabited α] (enc : α → List Value) (_ : ∀ x,(enc x).length = ie.size) (_ : ∀ x,∀ v ∈ enc x,v.oneCell' = true) (lt : α → α → Bool) (_ : Weak lt) (g : Nat) (lb : Array Value)
  (_ : ∀ args w,(callFunc g args).run P w = .ok (.enter g args) w) (blk off c : Nat) (d : Array α) (_ : 2 ≤ d.size) (_ : d.size < 1152921504606846976) (w : World) (_ : LessB P g lb enc ie.size lt blk off d.size w) (_ : HoldsK enc ie.size w blk off d) (_ : blk < w.heap.size),
  Calls P f #[.iface T (.slice (some ⟨blk,off,none⟩) d.size c), .func (.func g) #[] lb] w fun e w'=>e = .returned (.tuple #[]) ∧ SWB enc ie.size w blk off (stab lt d.toList).toArray w'
 tiny : ∀ (p : Option Addr) (n c : Nat),n ≤ 1 → ∀ (lf : Fn) (la lb : Array Value) (w : World),Calls P f #[.iface T (.slice p n c), .func lf la lb] w fun e w'=>e = .returned (.tuple #[]) ∧ Below w.heap.size w w'
def SrtCon (P : Program) (f : Nat) (c : Con) : Prop:=match c.args with
 | [.srt Ts]=>∀ T,memT Ts T = true → StableOk P f T
 | _=>True
end Go.Ev
end
section
namespace Go.Ev
open Go.RowKit (Below)
def PtrH (w : World) (G H : Nat → Prop) (t : Ty) (x : t.den) (v : Value) : Prop:=∃ b o cs,v = .pointer (some ⟨b,o,none⟩) ∧ H b ∧ CellsAt w b o cs ∧ Val w G t x cs
def CapsH (w : World) (G H : Nat → Prop) : (ts : List Ty) → dens ts → List Value → Prop
 | [],_,l=>l = []
 | t :: r,x,v :: l=>PtrH w G H t x.1 v ∧ CapsH w G H r x.2 l
 | _ :: _,_,[]=>False
def ArgH (w : World) (G H : Nat → Prop) : (a : AT) → a.den → Value → Prop
 | .val t,x,v=>∃ cs,Val w G t x cs ∧ AsVal t cs v
 | .ptr t,x,v=>PtrH w G H t x v
 | .clo f ts,x,v=>∃ cv : List Value,v = .func (.func f) #[] cv.toArray ∧ CapsH w G H ts x cv
 | .srt _,_,_ | .var _,_,_ | .io _,_,_ | .own _,_,_=>False
def ArgsH (w : World) (G H : Nat → Prop) : (ats : List AT) → ATs.den ats → List Value → Prop
 | [],_,l=>l = []
 | a :: r,x,v :: l=>ArgH w G H a x.1 v ∧ ArgsH w G H r x.2 l
 | _ :: _,_,[]=>False
abbrev PtrTo (w : World) (G : Nat → Prop) (t : Ty) (x : t.den) (v : Value) : Prop:=PtrH w G (fun b=>b < w.heap.size) t x v
abbrev CapsTo (w : World) (G : Nat → Prop) (ts : List Ty) (x : dens ts) (l : List Value) : Prop:=CapsH w G (fun b=>b < w.heap.size) ts x l
abbrev Arg (w : World) (G : Nat → Prop) (a : AT) (x : a.den) (v : Value) : Prop:=ArgH w G (fun b=>b < w.heap.size) a x v
abbrev Args (w : World) (G : Nat → Prop) (ats : List AT) (x : ATs.den ats) (l : List Value) : Prop:=ArgsH w G (fun b=>b < w.heap.size) ats x l
def Res1 (w : World) (G : Nat → Prop) (t : Ty) (x : t.den) (v : Value) : Prop:=∃ cs,Val w G t x cs ∧ AsVal t cs v
def Ress (w : World) (G : Nat → Prop) : (ts : List Ty) → den1 ts → List Value → Prop
 | [],_,l=>l = []
 | [t],x,l=>∃ v,l = [v] ∧ Res1 w G t x v
 | t :: u :: r,x,l=>∃ v l',l = v :: l' ∧ Res1 w G t x.1 v ∧ Ress w G (u :: r) x.2 l'
def asRes : List Value → Value
 | [v]=>v
 | l=>.tuple l.toArray
def grown (G : Nat → Prop) (w w' : World) : Nat → Prop:=fun b=>G b ∨ (w.heap.size ≤ b ∧ b < w'.heap.size)
def ConOk (P : Program) (w0 : World) (f : Nat) (c : Con) : Prop :=
 ∀ (k : Nat) (x : ATs.den c.args) (r : den1 c.res) (w : World) (G : Nat → Prop) (args : List Value),Below w0.heap.size w0 w → (∀ b,G b → b < w.heap.size) → c.fn k x = some r → Args w G c.args x args →
  Calls P f args.toArray w fun e w'=>∃ l,e = .returned (asRes l) ∧ Below w.heap.size w w' ∧ Ress w' (grown G w w') c.res r l
def Enters' (P : Program) (f : Nat) : Prop:=∀ args w,(callFunc f args).run P w = .ok (.enter f args) w
def ArgG (w : World) (G H : Nat → Prop) : (a : AT) → a.den → Value → List Nat → Prop
 | .var t,x,v,bl=>∃ b cs T bl',v = .pointer (some ⟨b,0,none⟩) ∧ w.heap[b]? = some (.cells (List.toArray cs) T (0,0)) ∧ Val w G t x cs ∧ Inn w G t x cs bl' ∧ bl = bl' ++ [b]
 | .io t,x,v,bl=>∃ cs,AsVal t cs v ∧ Val w G t x cs ∧ Inn w G t x cs bl
 | .own t,x,v,bl=>∃ cs,AsVal t cs v ∧ Val w G t x cs ∧ Inn w G t x cs bl
 | .val t,x,v,bl=>bl = [] ∧ ArgH w G H (.val t) x v
 | .ptr t,x,v,bl=>bl = [] ∧ ArgH w G H (.ptr t) x v
 | .clo f ts,x,v,bl=>bl = [] ∧ ArgH w G H (.clo f ts) x v
 | .srt _,_,_,_=>False
def ArgsG (w : World) (G H : Nat → Prop) : (ats : List AT) → ATs.den ats → List Value → List Nat → Prop
 | [],_,l,bl=>l = [] ∧ bl = []
 | a :: r,x,v :: l,bl=>∃ b1 b2,bl = b1 ++ b2 ∧ ArgG w G H a x.1 v b1 ∧ ArgsG w G H r x.2 l b2
 | _ :: _,_,[],_=>False
def OutG (w : World) (G : Nat → Prop) : (a : AT) → Sigma Ty.den → Value → List Nat → Prop
 | .var t,p,v,bl=>p.1 = t ∧ ∃ b cs T bl',v = .pointer (some ⟨b,0,none⟩) ∧ w.heap[b]? = some (.cells (List.toArray cs) T (0,0)) ∧ Val w G p.1 p.2 cs ∧ Inn w G p.1 p.2 cs bl' ∧ bl = bl' ++ [b]
 | .io t,p,v,bl=>p.1 = t ∧ ∃ cs,AsVal p.1 cs v ∧ Val w G p.1 p.2 cs ∧ Inn w G p.1 p.2 cs bl
 | _,_,_,_=>False
def OutsG (w : World) (G : Nat → Prop) : List AT → List Value → List (Sigma Ty.den) → List Nat → Prop
 | [],[],ps,bl=>ps = [] ∧ bl = []
 | a :: r,v :: l,ps,bl=>match isIo a with
  | true=>∃ p ps' b1 b2,ps = p :: ps' ∧ bl = b1 ++ b2 ∧ OutG w G a p v b1 ∧ OutsG w G r l ps' b2
  | false=>OutsG w G r l ps bl
 | _,_,_,_=>False
def Own1 (w : World) (G : Nat → Prop) (p : Sigma Ty.den) (v : Value) (bl : List Nat) : Prop:=∃ cs,AsVal p.1 cs v ∧ Val w G p.1 p.2 cs ∧ Inn w G p.1 p.2 cs bl
def ResG (w : World) (G : Nat → Prop) : List (Sigma Ty.den) → List Value → List Nat → Prop
 | [],l,bl=>l = [] ∧ bl = []
 | p :: ps,v :: l,bl=>∃ b1 b2,bl = b1 ++ b2 ∧ Own1 w G p v b1 ∧ ResG w G ps l b2
 | _ :: _,[],_=>False
def Con.nres (c : Con) : Nat:=lenN c.res - nIo c.args
def GenCon (P : Program) (w0 : World) (f : Nat) (c : Con) : Prop :=
 ∀ (k : Nat) (x : ATs.den c.args) (r : den1 c.res) (w : World) (G H : Nat → Prop) (args : List Value) (bl : List Nat),Below w0.heap.size w0 w → (∀ b,G b → b < w.heap.size) → (∀ b,H b → b < w.heap.size) → (∀ b,G b → H b) →
  ArgsG w G H c.args x args bl → bl.Nodup → (∀ b ∈ bl,¬ G b ∧ ¬ H b ∧ b < w.heap.size ∧ w0.heap.size ≤ b) → c.fn k x = some r →
  Calls P f args.toArray w fun e w'=>∃ l G' b1 b2,e = .returned (asRes l) ∧ Kept ⟨w,w0,fun b=>b ∈ bl,[]⟩ w' ∧ (∀ b,G' b → (G b ∨ w.heap.size ≤ b ∨ b ∈ bl) ∧ b < w'.heap.size) ∧
   ResG w' G' (takeN c.nres (parts c.res r)) l b1 ∧ OutsG w' G' c.args args (dropN c.nres (parts c.res r)) b2 ∧ (b1 ++ b2).Nodup ∧ ∀ b ∈ b1 ++ b2,¬ G' b ∧ b < w'.heap.size ∧ (w.heap.size ≤ b ∨ b ∈ bl)
def DelOk (P : Program) (w0 : World) (Δ : List (Nat × Con)) : Prop:=∀ f c,(f,c) ∈ Δ → (c.gen = false → ConOk P w0 f c) ∧ Enters' P f ∧ SrtCon P f c ∧ (c.gen = true → GenCon P w0 f c)
theorem GenCon.later {P : Program} {w0 w : World} {f : Nat} {c : Con} (h : GenCon P w0 f c) (hb : Below w0.heap.size w0 w) : GenCon P w f c:=by
 intro k x r w' G H args bl hb' h1 h2 h3 h4 h5 h6 h7
 refine Calls.mono (h k x r w' G H args bl (hb.trans (hb'.mono hb.size)) h1 h2 h3 h4 h5 (fun b hm=>⟨(h6 b hm).1,(h6 b hm).2.1,(h6 b hm).2.2.1,Nat.le_trans hb.size (h6 b hm).2.2.2⟩) h7) ?_
 rintro e w2 ⟨l,G',b1,b2,g1,g2,g3⟩
 exact ⟨l,G',b1,b2,g1,⟨g2.os,g2.tape,g2.output,g2.size,g2.block,hb'.trans ⟨g2.os,g2.tape,g2.output,g2.size,fun k hk=>g2.block k (Nat.lt_of_lt_of_le hk hb'.size) fun hm=>absurd (h6 k hm).2.2.2 (by omega)⟩,fun b hm=>(h6 b hm).2.2.2,hb'.size⟩,g3⟩
theorem ConOk.later {P : Program} {w0 w : World} {f : Nat} {c : Con} (h : ConOk P w0 f c) (hb : Below w0.heap.size w0 w) : ConOk P w f c:=fun k x r w' G args hb'=>h k x r w' G args (hb.trans (hb'.mono hb.size))
theorem DelOk.later {P : Program} {w0 w : World} {Δ : List (Nat × Con)} (h : DelOk P w0 Δ) (hb : Below w0.heap.size w0 w) : DelOk P w Δ:=fun f c hm=>⟨fun hg=>((h f c hm).1 hg).later hb,(h f c hm).2.1,(h f c hm).2.2.1,fun hg=>((h f c hm).2.2.2 hg).later hb⟩
theorem Ress.sv {m : St} : ∀ {ts : List Ty} {x : den1 ts} {l : List Value},Ress m.w m.G ts x l → Sv m (resAll ts x) (asRes l)
 | [],_,l,h=>by
  simp only [Ress] at h
  subst h
  exact ⟨[],rfl,trivial⟩
 | [t],x,l,⟨v,e,cs,hv,ha⟩=>by
  subst e
  exact sv_ofTy hv ha
 | t :: u :: r,x,l,h=>by
  have key : ∀ (ts : List Ty) (x : den1 ts) (l : List Value),Ress m.w m.G ts x l → R2 (Pv m) (svs ts x) l ∧ l.length = ts.length:=by
   intro ts
   induction ts with
   | nil=>intro x l h; simp only [Ress] at h; subst h; exact ⟨trivial,rfl⟩
   | cons t ts ih =>
    have one : ∀ (x : t.den) (v : Value),Res1 m.w m.G t x v → Pv m (t.isAgg,enc t x []) v:=by
     intro x v ⟨cs,hv,ha⟩
     have he:=Val.enc (m:=m) hv
     unfold AsVal at ha
     cases hg : t.isAgg with
     | true =>
      rw [hg] at ha
      exact .inl ⟨rfl,cs,ha,he⟩
     | false =>
      rw [hg] at ha
      simp only at ha
      subst ha
      cases hE : enc t x [] with
      | nil=>rw [hE] at he; exact absurd he (by simp [R2])
      | cons a l =>
       rw [hE] at he
       cases l with
       | nil=>exact .inr ⟨rfl,a,rfl,he.1⟩
       | cons b l=>exact absurd he.2 (by simp [R2])
    cases ts with
    | nil =>
     intro x l ⟨v,e,h⟩
     subst e
     exact ⟨⟨one x v h,trivial⟩,rfl⟩
    | cons u r =>
     intro x l ⟨v,l',e,h1,h2⟩
     subst e
     obtain ⟨g1,g2⟩:=ih x.2 l' h2
     exact ⟨⟨one x.1 v h1,g1⟩,by simp [g2]⟩
  obtain ⟨g1,g2⟩:=key _ x l h
  refine ⟨l, ?_,g1⟩
  match l,g2 with
  | a :: b :: l,_=>rfl
theorem Ress.flat {w w' : World} {G G' : Nat → Prop} : ∀ {ts : List Ty} {x : den1 ts} {l : List Value},y149q ts = true → Ress w G ts x l → Ress w' G' ts x l
 | [],_,_,_,h=>h
 | [t],x,l,hf,⟨v,e,cs,hv,ha⟩=>by
  simp only [y149q,Bool.and_true] at hf
  exact ⟨v,e,cs,Val.flat hf hv,ha⟩
 | t :: u :: r,x,l,hf,⟨v,l',e,⟨cs,hv,ha⟩,h2⟩=>by
  simp only [y149q,Bool.and_eq_true] at hf
  exact ⟨v,l',e,⟨cs,Val.flat hf.1 hv,ha⟩,Ress.flat (by simp only [y149q,Bool.and_eq_true]; exact hf.2) h2⟩
section
variable {P : Program} {w0 : Base} {G0 : Nat → Prop} {N : Nat} {F : List (Nat × Obj)} {m : St} {e : Env} {tm : Array Value} {Γ : Tab} {ρ : Type} {os : List (Nat × Obj)} {st : Bool} {Gd Hd : Nat → Prop}
theorem heap_lt {w : World} {b : Nat} {o : Go.Obj} (h : w.heap[b]? = some o) : b < w.heap.size:=(Array.getElem?_eq_some_iff.1 h).1
section
variable (ho : ∀ i o,find os i = some o → Ob m i o) (hG : ∀ b,m.G b → Gd b) (hL : ∀ b,m.H b → Hd b) (hV : ∀ i vs,find os i = some (.var vs) → Hd (m.β i))
  (hR : st = false → ∀ i o b,find os i = some o → frzB m i o b → Gd b)
include ho hG hL hV hR
theorem varTy_sound {t : Ty} {x : t.den} {id : Nat} {v : Value} (h : varTy st os t id = some x) (hv : v = .pointer (some ⟨m.β id,0,none⟩)) : PtrH m.w Gd Hd t x v:=by
 unfold varTy at h
 cases hf : find os id with
 | none=>simp [hf] at h
 | some o =>
  have hob:=ho id o hf
  cases o with
  | var vs =>
   simp only [hf] at h
   obtain ⟨cs,T,hh,hr⟩:=hob
   exact ⟨m.β id,0,cs,hv,hV id vs hf,cells_of_heap hh,y31q ho hG hR h hr⟩
  | _=>simp [hf] at h
theorem capTy_sound {t : Ty} {x : t.den} {c : Cap} {v : Value} (h : capTy st os t c = some x) (hv : Cp m c v) : PtrH m.w Gd Hd t x v:=by
 cases c with
 | loc id=>exact varTy_sound ho hG hL hV hR h hv.2
 | el u y =>
  obtain ⟨b,o,cs,e,hH,hc,hval⟩:=hv
  exact ⟨b,o,cs,e,hL b hH,hc,Val.cast h (Val.mono (fun b hb=>⟨hG b hb,rfl⟩) _ _ _ hval)⟩
theorem bindCaps_sound : ∀ (ts : List Ty) (cs : List Cap) (x : dens ts) (l : List Value),bindCaps st os ts cs = some x → R2 (Cp m) cs l → CapsH m.w Gd Hd ts x l
 | [],[],x,l,h,hl=>by
  cases l with
  | nil=>rfl
  | cons=>exact absurd hl (by simp [R2])
 | t :: r,c :: cs,x,l,h,hl=>by
  cases l with
  | nil=>exact absurd hl (by simp [R2])
  | cons v l =>
   obtain ⟨h1,h2⟩:=hl
   simp only [bindCaps] at h
   cases hx : capTy st os t c with
   | none=>simp [hx] at h
   | some y =>
    cases hy : bindCaps st os r cs with
    | none=>simp [hx,hy] at h
    | some z =>
     simp only [hx,hy,Option.some.injEq] at h
     subst h
     exact ⟨capTy_sound ho hG hL hV hR hx h1,bindCaps_sound r cs z l hy h2⟩
 | [],_ :: _,x,l,h,hl=>by simp [bindCaps] at h
 | _ :: _,[],x,l,h,hl=>by simp [bindCaps] at h
theorem y129q {a : AT} {x : a.den} {s : SV} {v : Value} (h : y40q st os a s = some x) (hv : Sv m s v) : ArgH m.w Gd Hd a x v:=by
 cases a with
 | val t =>
  simp only [y40q] at h
  obtain ⟨cs,h1,h2⟩:=decAll_val ho hG hR h hv
  exact ⟨cs,h1,h2⟩
 | srt Ts=>simp [y40q] at h
 | var t=>simp [y40q] at h
 | io t=>simp [y40q] at h
 | own t=>simp [y40q] at h
 | ptr t =>
  cases s with
  | one y =>
   cases y with
   | loc id off =>
    cases off with
    | zero=>exact varTy_sound ho hG hL hV hR (by simpa only [y40q] using h) hv.2
    | succ=>simp [y40q] at h
   | el u y off =>
    cases off with
    | zero =>
     simp only [y40q] at h
     obtain ⟨b,o,cs,e,hH,hc,hval⟩:=hv
     exact ⟨b,o,cs,by simpa using e,hL b hH,hc,Val.cast h (Val.mono (fun b hb=>⟨hG b hb,rfl⟩) _ _ _ hval)⟩
    | succ=>simp [y40q] at h
   | _=>simp [y40q] at h
  | _=>simp [y40q] at h
 | clo f ts =>
  cases s with
  | one y =>
   cases y with
   | clo g caps =>
    simp only [y40q] at h
    cases hb : Nat.beq f g with
    | false=>simp [hb] at h
    | true =>
     simp only [hb] at h
     have:=Nat.eq_of_beq_eq_true hb
     subst this
     obtain ⟨cv,e,hc⟩:=hv
     exact ⟨cv,e,bindCaps_sound ho hG hL hV hR ts caps x cv h hc⟩
   | _=>simp [y40q] at h
  | _=>simp [y40q] at h
theorem y106q : ∀ (ats : List AT) (vs : List SV) (x : ATs.den ats) (l : List Value),y48q st os ats vs = some x → R2 (Sv m) vs l → ArgsH m.w Gd Hd ats x l
 | [],[],x,l,h,hl=>by
  cases l with
  | nil=>rfl
  | cons=>exact absurd hl (by simp [R2])
 | a :: r,v :: vs,x,l,h,hl=>by
  cases l with
  | nil=>exact absurd hl (by simp [R2])
  | cons u l =>
   obtain ⟨h1,h2⟩:=hl
   simp only [y48q] at h
   cases hx : y40q st os a v with
   | none=>simp [hx] at h
   | some y =>
    cases hy : y48q st os r vs with
    | none=>simp [hx,hy] at h
    | some z =>
     simp only [hx,hy,Option.some.injEq] at h
     subst h
     exact ⟨y129q ho hG hL hV hR hx h1,y106q r vs z l hy h2⟩
 | [],_ :: _,x,l,h,hl=>by simp [y48q] at h
 | _ :: _,[],x,l,h,hl=>by simp [y48q] at h
end
end
end Go.Ev
end
section
namespace Go.Ev
open Go.RowKit (Below)
structure Grow (m m' : St) : Prop where
 le : m.le m'
 w : m'.w = m.w
 G : m'.G = m.G
 H : m'.H = m.H
theorem Grow.refl (m : St) : Grow m m:=⟨.refl m,rfl,rfl,rfl⟩
theorem Grow.trans {a b c : St} (h : Grow a b) (k : Grow b c) : Grow a c:=⟨h.le.trans k.le,k.w.trans h.w,k.G.trans h.G,k.H.trans h.H⟩
section
variable {P : Program} {w0 : Base} {G0 : Nat → Prop} {N : Nat} {F : List (Nat × Obj)} {m : St} {e : Env} {tm : Array Value} {Γ : Tab} {ρ : Type} {os : List (Nat × Obj)} {L : Nat}
structure Wait (w0 : Base) (G0 : Nat → Prop) (N : Nat) (F : List (Nat × Obj)) (L : Nat) (m : St) (e : Env) (tm : Array Value) (rest : List Nat) : Prop where
 rel : Rel w0 G0 N F m e tm
 free : ∀ i,e.next ≤ i → i < L → ¬ m.D i
 dis : ∀ i b,blk (e.objs ++ F) m i b → b ∉ rest
 nd : rest.Nodup
 bl : ∀ b ∈ rest,¬ m.G b ∧ ¬ m.H b ∧ b < m.w.heap.size ∧ Mine w0 b
theorem Wait.row {T : Nat} {t : Ty} {xs : List t.den} {v : Value} {bl rest : List Nat} (h : Wait w0 G0 N F L m e tm (bl ++ rest)) (hL : e.next < L) (hr : RowAt m.w m.G T t xs v) (hi : RowIn m.w m.G t xs v bl) :
  ∃ m',Grow m m' ∧ (∀ i,m'.D i ↔ m.D i ∨ i = e.next) ∧ m'.ν e.next = v ∧ Wait w0 G0 N F L m' (e.new (.row T t e.next xs)) tm rest ∧ Lv m' (.row e.next) v:=by
 have hfr:=h.free e.next (Nat.le_refl _) hL
 have hnd:=List.nodup_append.1 h.nd
 obtain ⟨m',hle,hw,hD,hν,hG,hH,hσ,hok⟩:=h.rel.ok.newRowX m.w T t xs v bl h.rel.ok.base (fun _ _=>rfl) (fun _ _=>rfl) (Nat.le_refl _) (fun _ _ _=>rfl) hr hi hnd.1 hfr (fun b hb=>by
  obtain ⟨o1,o2,o3,o4⟩:=h.bl b (List.mem_append_left _ hb)
  exact ⟨o4,o3,o1,o2,fun i hk=>h.dis i b hk (List.mem_append_left _ hb)⟩)
 have hs : ∃ A n c,v = .slice A n c:=by
  rcases hr with ⟨e,_⟩ | ⟨b,c,cs,e,_⟩ <;> exact ⟨_,_,_,e⟩
 refine ⟨m',⟨hle,hw,hG,hH⟩,hD,hν,⟨h.rel.push hfr hle _ hok,fun i h1 h2 hd=>?_,fun i b hb hm=>?_,hnd.2.1,fun b hb=>?_⟩,(hD _).2 (.inr rfl),hν.symm,hs⟩
 ·have h1 : e.next + 1 ≤ i:=h1
  rcases (hD i).1 hd with hd | hd
  ·exact h.free i (by omega) h2 hd
  ·omega
 ·have hb : blk ((e.next, .row T t e.next xs) :: (e.objs ++ F)) m' i b:=hb
  by_cases hi : i = e.next
  ·subst hi
   unfold blk at hb
   rw [y14q,if_pos rfl] at hb
   simp only [hσ] at hb
   exact hnd.2.2 b hb b hm rfl
  ·refine h.dis i b ?_ (List.mem_append_right _ hm)
   rw [← blk_le hle h.rel.ok.objs]
   unfold blk at hb ⊢
   rw [y14q,if_neg fun q=>hi q.symm] at hb
   exact hb
 ·rw [hG,hH,hw]
  exact h.bl b (List.mem_append_right _ hb)
theorem Wait.mp {k v : Ty} {xs : List (k.den × v.den)} {b : Nat} {rest : List Nat} (h : Wait w0 G0 N F L m e tm ([b] ++ rest)) (hL : e.next < L) (hm : MapAt m.w m.G k v xs b) :
  ∃ m',Grow m m' ∧ (∀ i,m'.D i ↔ m.D i ∨ i = e.next) ∧ Wait w0 G0 N F L m' (e.new (.map k v xs)) tm rest ∧ Lv m' (.map e.next) (.map (some b)):=by
 have hfr:=h.free e.next (Nat.le_refl _) hL
 have hnd:=List.nodup_append.1 h.nd
 obtain ⟨o1,o2,o3,o4⟩:=h.bl b (by simp)
 obtain ⟨m',hle,hw,hD,hβ,hG,hH,hok⟩:=h.rel.ok.newMap m.w k v xs b h.rel.ok.base (fun _ _=>rfl) (fun _ _=>rfl) (Nat.le_refl _) (fun _ _ _=>rfl) hm hfr ⟨o4,o1,o2,fun i hk=>h.dis i b hk (by simp)⟩
 refine ⟨m',⟨hle,hw,hG,hH⟩,hD,⟨h.rel.push hfr hle _ hok,fun i h1 h2 hd=>?_,fun i c hb hmm=>?_,hnd.2.1,fun c hb=>?_⟩,(hD _).2 (.inr rfl),by rw [hβ]⟩
 ·have h1 : e.next + 1 ≤ i:=h1
  rcases (hD i).1 hd with hd | hd
  ·exact h.free i (by omega) h2 hd
  ·omega
 ·have hb : blk ((e.next, .map k v xs) :: (e.objs ++ F)) m' i c:=hb
  by_cases hi : i = e.next
  ·subst hi
   unfold blk at hb
   rw [y14q,if_pos rfl] at hb
   simp only [hβ] at hb
   subst hb
   exact hnd.2.2 c (by simp) c hmm rfl
  ·refine h.dis i c ?_ (List.mem_append_right _ hmm)
   rw [← blk_le hle h.rel.ok.objs]
   unfold blk at hb ⊢
   rw [y14q,if_neg fun q=>hi q.symm] at hb
   exact hb
 ·rw [hG,hH,hw]
  exact h.bl c (List.mem_append_right _ hb)
theorem Wait.again {id T : Nat} {t : Ty} {xs : List t.den} {bn bx rest : List Nat} (h : Wait w0 G0 N F L m e tm (bx ++ rest)) (hL : e.next < L) (hD : m.D id) (hF : find F id = none) (hsub : ∀ b ∈ bn,b ∈ bx) (hnd : bn.Nodup) (hr : RowAt m.w m.G T t xs (m.ν id)) (hi : RowIn m.w m.G t xs (m.ν id) bn) :
  ∃ m',Grow m m' ∧ (∀ i,m'.D i ↔ m.D i ∨ i = e.next) ∧ Wait w0 G0 N F L m' (e.back id (.row T t e.next xs)) tm rest:=by
 have hfr:=h.free e.next (Nat.le_refl _) hL
 have hn:=List.nodup_append.1 h.nd
 obtain ⟨m',hw,hle,hD',hG,hH,_,_,hσ,hR⟩:=h.rel.back (w':=m.w) (id:=id) (T:=T) (t:=t) (xs:=xs) (bl:=bn) hD hF hfr h.rel.ok.base (Nat.le_refl _) (fun _ _=>rfl) (fun _ _=>rfl) (fun _ _ _=>rfl) hr hi hnd (fun b hb=>by
  obtain ⟨o1,o2,o3,o4⟩:=h.bl b (List.mem_append_left _ (hsub b hb))
  exact ⟨o1,o2,o3,o4,fun i hk=>h.dis i b hk (List.mem_append_left _ (hsub b hb))⟩)
 refine ⟨m',⟨hle,hw,hG,hH⟩,hD',hR,fun i h1 h2 hd=>?_,fun i b hb hm=>?_,hn.2.1,fun b hb=>?_⟩
 ·have h1 : e.next + 1 ≤ i:=h1
  rcases (hD' i).1 hd with hd | hd
  ·exact h.free i (by omega) h2 hd
  ·omega
 ·have hb : blk ((id, .row T t e.next xs) :: (e.objs ++ F)) m' i b:=hb
  by_cases hi : i = id
  ·subst hi
   unfold blk at hb
   rw [y14q,if_pos rfl] at hb
   simp only [hσ] at hb
   exact hn.2.2 b (hsub b hb) b hm rfl
  ·refine h.dis i b ?_ (List.mem_append_right _ hm)
   rw [← blk_le hle h.rel.ok.objs]
   unfold blk at hb ⊢
   rw [y14q,if_neg fun q=>hi q.symm] at hb
   exact hb
 ·rw [hG,hH,hw]
  exact h.bl b (List.mem_append_right _ hb)
theorem Wait.perm {r1 r2 : List Nat} (h : Wait w0 G0 N F L m e tm r1) (hn : r2.Nodup) (hs : ∀ b ∈ r2,b ∈ r1) : Wait w0 G0 N F L m e tm r2 :=
 ⟨h.rel,h.free,fun i b hb hm=>h.dis i b hb (hs b hm),hn,fun b hb=>h.bl b (hs b hb)⟩
theorem Wait.back {id : Nat} {l : List V} {cs : List Value} {T : Nat} {rest : List Nat} (h : Wait w0 G0 N F L m e tm ([m.β id] ++ rest)) (hD : m.D id) (hF : find F id = none)
  (hh : m.w.heap[m.β id]? = some (.cells cs.toArray T (0,0))) (hr : R2 (Lv m) l cs) : Wait w0 G0 N F L m ⟨e.slots,(id, .var l) :: e.objs,e.next⟩ tm rest:=by
 have hnd:=List.nodup_append.1 h.nd
 have hok:=h.rel.ok
 have hblk : ∀ i c,blk ((id, .var l) :: (e.objs ++ F)) m i c → (i = id ∧ c = m.β id) ∨ (i ≠ id ∧ blk (e.objs ++ F) m i c):=fun i c hk=>by
  unfold blk at hk ⊢
  rw [y14q] at hk
  by_cases hi : id = i
  ·rw [if_pos hi] at hk; subst hi; exact .inl ⟨rfl,hk⟩
  ·rw [if_neg hi] at hk; exact .inr ⟨fun q=>hi q.symm,hk⟩
 have hnot : ∀ i,¬ blk (e.objs ++ F) m i (m.β id):=fun i hk=>h.dis i _ hk (by simp)
 refine ⟨⟨⟨hok.base,fun i o ho=>?_,fun i j c h1 h2=>?_,fun i c h1=>?_,hok.liveG,hok.liveH,hok.subG,hok.gh⟩,fun i o ho=>?_,h.rel.tms,h.rel.slots⟩,h.free,fun i c hk hm=>?_,hnd.2.1,fun b hb=>h.bl b (List.mem_append_right _ hb)⟩
 ·have ho : find ((id, .var l) :: (e.objs ++ F)) i = some o:=ho
  rw [y14q] at ho
  by_cases hi : id = i
  ·rw [if_pos hi] at ho
   obtain rfl:=Option.some.inj ho
   subst hi
   exact ⟨hD,cs,T,hh,hr⟩
  ·rw [if_neg hi] at ho
   exact hok.objs i o ho
 ·rcases hblk i c h1 with ⟨q1,e1⟩ | ⟨_,k1⟩ <;> rcases hblk j c h2 with ⟨q2,e2⟩ | ⟨_,k2⟩
  ·rw [q1,q2]
  ·rw [e1] at k2; exact absurd k2 (hnot j)
  ·rw [e2] at k1; exact absurd k1 (hnot i)
  ·exact hok.inj i j c k1 k2
 ·rcases hblk i c h1 with ⟨rfl,rfl⟩ | ⟨_,h1⟩
  ·exact h.bl _ (by simp)
  ·exact hok.out i c h1
 ·rw [y14q] at ho
  by_cases hi : id = i
  ·subst hi; exact hF
  ·rw [if_neg hi] at ho; exact h.rel.disj i o ho
 ·rcases hblk i c hk with ⟨rfl,rfl⟩ | ⟨_,h1⟩
  ·exact hnd.2.2 _ (by simp) _ hm rfl
  ·exact h.dis i c h1 (List.mem_append_right _ hm)
theorem Wait.backMap {id : Nat} {k v : Ty} {xs : List (k.den × v.den)} {rest : List Nat} (h : Wait w0 G0 N F L m e tm ([m.β id] ++ rest)) (hD : m.D id) (hF : find F id = none)
  (hh : MapAt m.w m.G k v xs (m.β id)) : Wait w0 G0 N F L m ⟨e.slots,(id, .map k v xs) :: e.objs,e.next⟩ tm rest:=by
 have hnd:=List.nodup_append.1 h.nd
 have hok:=h.rel.ok
 have hblk : ∀ i c,blk ((id, .map k v xs) :: (e.objs ++ F)) m i c → (i = id ∧ c = m.β id) ∨ (i ≠ id ∧ blk (e.objs ++ F) m i c):=fun i c hk=>by
  unfold blk at hk ⊢
  rw [y14q] at hk
  by_cases hi : id = i
  ·rw [if_pos hi] at hk; subst hi; exact .inl ⟨rfl,hk⟩
  ·rw [if_neg hi] at hk; exact .inr ⟨fun q=>hi q.symm,hk⟩
 have hnot : ∀ i,¬ blk (e.objs ++ F) m i (m.β id):=fun i hk=>h.dis i _ hk (by simp)
 refine ⟨⟨⟨hok.base,fun i o ho=>?_,fun i j c h1 h2=>?_,fun i c h1=>?_,hok.liveG,hok.liveH,hok.subG,hok.gh⟩,fun i o ho=>?_,h.rel.tms,h.rel.slots⟩,h.free,fun i c hk hm=>?_,hnd.2.1,fun b hb=>h.bl b (List.mem_append_right _ hb)⟩
 ·have ho : find ((id, .map k v xs) :: (e.objs ++ F)) i = some o:=ho
  rw [y14q] at ho
  by_cases hi : id = i
  ·rw [if_pos hi] at ho
   obtain rfl:=Option.some.inj ho
   subst hi
   exact ⟨hD,hh⟩
  ·rw [if_neg hi] at ho
   exact hok.objs i o ho
 ·rcases hblk i c h1 with ⟨q1,e1⟩ | ⟨_,k1⟩ <;> rcases hblk j c h2 with ⟨q2,e2⟩ | ⟨_,k2⟩
  ·rw [q1,q2]
  ·rw [e1] at k2; exact absurd k2 (hnot j)
  ·rw [e2] at k1; exact absurd k1 (hnot i)
  ·exact hok.inj i j c k1 k2
 ·rcases hblk i c h1 with ⟨rfl,rfl⟩ | ⟨_,h1⟩
  ·exact h.bl _ (by simp)
  ·exact hok.out i c h1
 ·rw [y14q] at ho
  by_cases hi : id = i
  ·subst hi; exact hF
  ·rw [if_neg hi] at ho; exact h.rel.disj i o ho
 ·rcases hblk i c hk with ⟨rfl,rfl⟩ | ⟨_,h1⟩
  ·exact hnd.2.2 _ (by simp) _ hm rfl
  ·exact h.dis i c h1 (List.mem_append_right _ hm)
theorem y68q : ∀ (t : Ty) (e : Env) (x : t.den),e.next ≤ (openV e t x).1.next
 | .osl T t,e,x=>Nat.le_succ _
 | .pair a b,e,x=>Nat.le_trans (y68q a e x.1) (y68q b _ x.2)
 | .omp k v,e,x=>Nat.le_succ _
 | .int _,e,_ | .bool,e,_ | .str,e,_ | .sl _,e,_ | .unit,e,_ | .any,e,_ | .mp _ _,e,_=>Nat.le_refl _
theorem openV_slots : ∀ (t : Ty) (e : Env) (x : t.den),(openV e t x).1.slots = e.slots
 | .osl T t,e,x=>rfl
 | .pair a b,e,x=>(openV_slots b _ x.2).trans (openV_slots a e x.1)
 | .omp k v,e,x=>rfl
 | .int _,e,_ | .bool,e,_ | .str,e,_ | .sl _,e,_ | .unit,e,_ | .any,e,_ | .mp _ _,e,_=>rfl
theorem y146q {rest : List Nat} : ∀ (t : Ty) (x : t.den) (m : St) (e : Env) (cs : List Value) (bl rest : List Nat),Val m.w m.G t x cs → Inn m.w m.G t x cs bl → Wait w0 G0 N F L m e tm (bl ++ rest) → (openV e t x).1.next ≤ L →
  ∃ m',Grow m m' ∧ (∀ i,m'.D i → m.D i ∨ (e.next ≤ i ∧ i < (openV e t x).1.next)) ∧ Wait w0 G0 N F L m' (openV e t x).1 tm rest ∧ R2 (Lv m') (openV e t x).2 cs
 | .osl T t,xs,m,e,cs,bl,rest,_,⟨v,e1,hr,hi⟩,hw,hL=>by
  subst e1
  obtain ⟨m',g,hD,hν,hw',hl⟩:=hw.row (Nat.lt_of_lt_of_le (Nat.lt_succ_self _) hL) hr hi
  exact ⟨m',g,fun i hi=>((hD i).1 hi).imp id fun h=>by subst h; exact ⟨Nat.le_refl _,Nat.lt_succ_self _⟩,hw',hl,trivial⟩
 | .pair a b,x,m,e,cs,bl,rest,⟨c1,c2,e1,v1,v2⟩,⟨d1,d2,b1,b2,e2,e3,e4,i1,i2⟩,hw,hL=>by
  subst e1; subst e4
  obtain ⟨rfl,rfl⟩:=List.append_inj e2 (by rw [v1.length,e3])
  rw [List.append_assoc] at hw
  have hL' : (openV (openV e a x.1).1 b x.2).1.next ≤ L:=hL
  obtain ⟨m1,g1,d1,w1,r1⟩:=y146q (rest:=rest) a x.1 m e c1 b1 (b2 ++ rest) v1 i1 hw (Nat.le_trans (y68q b _ x.2) hL')
  obtain ⟨m2,g2,d2,w2,r2⟩:=y146q (rest:=rest) b x.2 m1 (openV e a x.1).1 c2 b2 rest (by rw [g1.w,g1.G]; exact v2) (by rw [g1.w,g1.G]; exact i2) w1 hL'
  refine ⟨m2,g1.trans g2,fun i hi=>?_,w2,(r1.imp fun _ _ hx=>Lv.le g2.le hx).append r2⟩
  have n1:=y68q a e x.1
  have n2:=y68q b (openV e a x.1).1 x.2
  show _ ∨ (_ ∧ i < (openV (openV e a x.1).1 b x.2).1.next)
  rcases d2 i hi with h | ⟨h1,h2⟩
  ·rcases d1 i h with h | ⟨h1,h2⟩
   ·exact .inl h
   ·exact .inr ⟨h1,by omega⟩
  ·exact .inr ⟨by omega,h2⟩
 | .int k,x,m,e,cs,bl,rest,v,i,hw,_=>by simp only [Inn] at i; subst i; exact ⟨m, .refl m,fun i h=>.inl h,hw,Val.enc (t:=.int k) v⟩
 | .bool,x,m,e,cs,bl,rest,v,i,hw,_=>by simp only [Inn] at i; subst i; exact ⟨m, .refl m,fun i h=>.inl h,hw,Val.enc (t:=.bool) v⟩
 | .str,x,m,e,cs,bl,rest,v,i,hw,_=>by simp only [Inn] at i; subst i; exact ⟨m, .refl m,fun i h=>.inl h,hw,Val.enc (t:=.str) v⟩
 | .sl t,x,m,e,cs,bl,rest,v,i,hw,_=>by simp only [Inn] at i; subst i; exact ⟨m, .refl m,fun i h=>.inl h,hw,Val.enc (t:=.sl t) v⟩
 | .unit,x,m,e,cs,bl,rest,v,i,hw,_=>by simp only [Inn] at i; subst i; exact ⟨m, .refl m,fun i h=>.inl h,hw,Val.enc (t:=.unit) v⟩
 | .any,x,m,e,cs,bl,rest,v,i,hw,_=>by simp only [Inn] at i; subst i; exact ⟨m, .refl m,fun i h=>.inl h,hw,Val.enc (t:=.any) v⟩
 | .mp k u,x,m,e,cs,bl,rest,v,i,hw,_=>by simp only [Inn] at i; subst i; exact ⟨m, .refl m,fun i h=>.inl h,hw,Val.enc (t:=.mp k u) v⟩
 | .omp k u,xs,m,e,cs,bl,rest,_,⟨b,e1,e2,hm⟩,hw,hL=>by
  subst e1; subst e2
  obtain ⟨m',g,hD,hw',hl⟩:=hw.mp (Nat.lt_of_lt_of_le (Nat.lt_succ_self _) hL) hm
  exact ⟨m',g,fun i hi=>((hD i).1 hi).imp id fun h=>by subst h; exact ⟨Nat.le_refl _,Nat.lt_succ_self _⟩,hw',hl,trivial⟩
theorem openAll_next : ∀ (ps : List (Sigma Ty.den)) (e : Env),e.next ≤ (openAll e ps).1.next
 | [],e=>Nat.le_refl _
 | ⟨t,x⟩ :: r,e=>Nat.le_trans (y68q t e x) (openAll_next r _)
theorem openAll_slots : ∀ (ps : List (Sigma Ty.den)) (e : Env),(openAll e ps).1.slots = e.slots
 | [],e=>rfl
 | ⟨t,x⟩ :: r,e=>(openAll_slots r _).trans (openV_slots t e x)
theorem pv_of {m : St} {t : Ty} {l : List V} {cs : List Value} {v : Value} (h : R2 (Lv m) l cs) (ha : AsVal t cs v) : Pv m (t.isAgg,l) v:=by
 unfold AsVal at ha
 cases hg : t.isAgg with
 | true=>rw [hg] at ha; exact .inl ⟨rfl,cs,ha,h⟩
 | false =>
  rw [hg] at ha
  simp only at ha
  subst ha
  match l,h with
  | [a],h=>exact .inr ⟨rfl,a,rfl,h.1⟩
theorem openAll_sound : ∀ (ps : List (Sigma Ty.den)) (m : St) (e : Env) (l : List Value) (bl rest : List Nat),ResG m.w m.G ps l bl → Wait w0 G0 N F L m e tm (bl ++ rest) → (openAll e ps).1.next ≤ L →
  ∃ m',Grow m m' ∧ (∀ i,m'.D i → m.D i ∨ (e.next ≤ i ∧ i < (openAll e ps).1.next)) ∧ Wait w0 G0 N F L m' (openAll e ps).1 tm rest ∧ R2 (Pv m') (openAll e ps).2 l
 | [],m,e,l,bl,rest,⟨e1,e2⟩,hw,_=>by subst e1; subst e2; exact ⟨m, .refl m,fun i h=>.inl h,hw,trivial⟩
 | ⟨t,x⟩ :: r,m,e,[],bl,rest,h,hw,_=>by simp [ResG] at h
 | ⟨t,x⟩ :: r,m,e,v :: l,bl,rest,⟨b1,b2,e1,⟨cs,ha,hv,hi⟩,h2⟩,hw,hL=>by
  subst e1
  rw [List.append_assoc] at hw
  have hL' : (openAll (openV e t x).1 r).1.next ≤ L:=hL
  obtain ⟨m1,g1,d1,w1,r1⟩:=y146q (rest:=rest) t x m e cs b1 (b2 ++ rest) hv hi hw (Nat.le_trans (openAll_next r _) hL')
  obtain ⟨m2,g2,d2,w2,r2⟩:=openAll_sound r m1 (openV e t x).1 l b2 rest (by rw [g1.w,g1.G]; exact h2) w1 hL'
  refine ⟨m2,g1.trans g2,fun i hi=>?_,w2,Pv.le g2.le (pv_of r1 ha),r2⟩
  have n1:=y68q t e x
  have n2:=openAll_next r (openV e t x).1
  show _ ∨ (_ ∧ i < (openAll (openV e t x).1 r).1.next)
  rcases d2 i hi with h | ⟨h1,h2⟩
  ·rcases d1 i h with h | ⟨h1,h2⟩
   ·exact .inl h
   ·exact .inr ⟨h1,by omega⟩
  ·exact .inr ⟨by omega,h2⟩
theorem svRes_sv {m : St} : ∀ {ls : List (Bool × List V)} {l : List Value},R2 (Pv m) ls l → Sv m (svRes ls) (asRes l)
 | [],[],_=>⟨[],rfl,trivial⟩
 | [(true,l)],[v],⟨h,_⟩=>by
  rcases h with ⟨_,cs,e,hr⟩ | ⟨e,_⟩
  ·exact ⟨cs,e,hr⟩
  ·cases e
 | [(false,l)],[v],⟨h,_⟩=>by
  rcases h with ⟨e,_⟩ | ⟨_,u,e,hr⟩
  ·cases e
  ·simp only at e; subst e; exact hr
 | p :: q :: r,v :: u :: l,h=>by
  have : svRes (p :: q :: r) = .tup (p :: q :: r):=by
   obtain ⟨b,x⟩:=p
   cases b <;> simp [svRes]
  rw [this]
  exact ⟨v :: u :: l,rfl,h⟩
end
end Go.Ev
end
