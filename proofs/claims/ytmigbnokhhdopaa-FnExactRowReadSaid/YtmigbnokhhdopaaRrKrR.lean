import Derived.Test.YtmigbnokhhdopaaRrKrQ
import Derived.Test.YtmigbnokhhdopaaRrSbW
import Derived.Test.YtmigbnokhhdopaaRrEvG
set_option linter.unusedSimpArgs false
set_option linter.unusedVariables false
set_option maxRecDepth 100000
namespace Go.Ev.T2
open Go Go.Proofs Go.Ev.T1 Go.RowKit
theorem isB_below {T e : TypeId} {B b : Nat} {bs : List Value} {w w' : World} (h : Lib.IsBuilderF T e B b bs w) (hb : Below w.heap.size w w') : Lib.IsBuilderF T e B b bs w':=by
 have key : ∀ p,Lib.BuilderAtF T e B b p bs w → Lib.BuilderAtF T e B b p bs w':=by
  rintro p ⟨hB,v,hbk,hown,hne⟩
  have lt : ∀ {k : Nat} {o : Go.Obj},w.heap[k]? = some o → w'.heap[k]? = some o:=fun {k o} hk=>by
   rw [hb.block k (Array.getElem?_eq_some_iff.1 hk).1]; exact hk
  refine ⟨hB,v,lt hbk,⟨hown.1, ?_⟩,hne⟩
  rcases hown.2 with h | ⟨g,cap,cur,fz,hv,hg,hh,r⟩
  ·exact .inl h
  ·exact .inr ⟨g,cap,cur,fz,hv,hg,lt hh,r⟩
 exact h.imp (key _) (key _)
theorem y148q (w : World) (cs : Array Value) (T : TypeId) {i : Nat} {x : Value} (h : cs[i]? = some x) : (w.alloc (.cells cs T)).cell? ⟨w.heap.size,i,none⟩ = some x:=by
 have e : (w.alloc (.cells cs T)).heap[w.heap.size]? = some (.cells cs T (0,0)):=by
  show (w.heap.push _)[w.heap.size]? = _
  rw [Array.getElem?_push_size]
 rw [Lib.cell_of_heap e,h]
noncomputable def r22 : List Oper:=match Try.f58.body with
 | some c=>findR 22 c
 | none=>[]
noncomputable def pre22 : List Oper:=r22.take 18
noncomputable def d22 : List (Nat × Con):=[(78,c_u72f),(56,c_u48f)]
theorem stops0 {w0 : World} : Stops w0:=⟨trivial⟩
theorem del22 {w0 : World} : DelOk Try.prog w0 d22:=.cons (ok_u72f stops0) ent_u72f (.cons (ok_u48f stops0) ent_u48f .nil)
noncomputable def e22 (v : KV) (a b : Int) : Env:=⟨[(6, .one (.el T52 v 0)),(8, .one (.i .i64 a)),(9, .one (.i .i64 b))],[],0⟩
noncomputable def k22 (e : Env) : Option (List UInt8):=match find e.slots 73 with
 | some (.one (.s x))=>some x
 | _=>none
theorem ev22 (k : Nat) (v : KV) (a b : Int) : evOpsD Γ d22 k pre22 (ancs 0 pre22 []) pre22 0 [] (e22 v a b) k22 =
  bnd (u72f k (IntKind.i64.wrap (1152921504606846976 + a)) 8) fun y1=>br (decide ([3].length + List.length y1 ≤ capN)) (bnd (u48f k (IntKind.i64.wrap (6 - v.2.2.1))) fun y2=>bnd (u72f k (IntKind.i64.wrap (b * y2)) 3) fun y3 =>
   br (decide (([3] ++ y1).length + List.length y3 ≤ capN)) (br (decide (([3] ++ y1 ++ y3).length + (List.map (fun n=>UInt8.ofNat n.toNat) [IntKind.u8.wrap v.1]).length ≤ capN)) (some ([3] ++ y1 ++ y3 ++ List.map (fun n=>UInt8.ofNat n.toNat) [IntKind.u8.wrap v.1])) none) none) none:=by kernel_rfl
theorem slots22 : slotsOk pre22 (ancs 0 pre22 []) 0 pre22 = true:=by kernel_rfl
noncomputable def last22 : Oper:=r22.getD 18 default
theorem all22 : r22 = pre22.toArray.toList ++ [last22]:=by kernel_rfl
theorem size22 : pre22.toArray.size = 18:=by kernel_rfl
theorem ok22 : lastB r22 18 = true:=by kernel_rfl
theorem op22 : ∃ ts,last22.op = .call ⟨.value (.func 77),#[.tmp 4, .tmp 73],ts⟩:=⟨#[105,9],by kernel_rfl⟩
theorem dst22 : last22.dst = some 74:=by kernel_rfl
def slots22s : List Nat:=[56,57,58,59,60,61,62,63,64,65,66,67,68,69,70,71,72,73,74]
def keep22 : List Nat:=(List.range 91).filter fun i=>!memN slots22s i
theorem dstOk22 : (pre22.all fun o=>dstOk keep22 91 o.dst) = true:=by kernel_rfl
theorem mem_keep : ∀ i,i < 91 → i ∉ slots22s → i ∈ keep22:=by decide +kernel
theorem keep_lt : ∀ i ∈ keep22,i < 91:=by decide +kernel
theorem ent124 : Enters' Try.prog 77:=enters' Try.func77 (by kernel_rfl)
set_option maxHeartbeats 2000000 in
theorem region22 {Q : Exit → Act → World → Prop} {id : Nat} {ops : Array Oper} {tm : Array Value} {W : World} {B0 b6 : Nat} {v : KV} {a b : Int} {acc : List UInt8} (hops : ops = pre22.toArray.push last22)
  (hs : tm.size = 91) (h4 : tm[4]? = some (.pointer (some ⟨B0,0,none⟩))) (h6 : tm[6]? = some (.pointer (some ⟨b6,0,none⟩))) (h8 : tm[8]? = some (.int .i64 a)) (h9 : tm[9]? = some (.int .i64 b))
  (hb6 : b6 < W.heap.size) (hc : CellsAt W b6 0 [.int .i64 v.1, .int .i64 v.2.1, .int .i64 v.2.2.1, .string ⟨v.2.2.2.1.toArray⟩])
  (ha0 : 0 ≤ 1152921504606846976 + a) (ha1 : a ≤ 1152921504606846976) (hs0 : 0 ≤ v.2.2.1) (hs6 : v.2.2.1 ≤ 6) (hb0 : 0 ≤ b * pow10 (6 - v.2.2.1)) (hb1 : b * pow10 (6 - v.2.2.1) ≤ 16777216) (hk0 : 0 ≤ v.1) (hk1 : v.1 ≤ 255)
  (hI : Lib.IsBuilderF 105 5 B0 B0 (Lib.byteCells acc) W) (hacc : acc.length ≤ 100000) (hB : B0 ≤ W.heap.size)
  (hQ : ∀ (f : Nat → Value) (W' : World),Lib.IsBuilderF 105 5 B0 B0 (Lib.byteCells (acc ++ 3 :: (be (1152921504606846976 + a).toNat 8 ++ be (b * pow10 (6 - v.2.2.1)).toNat 3 ++ [UInt8.ofNat v.1.toNat]))) W' → Below B0 W W' →
   Q .normal ⟨slots22s.foldl (fun t i=>t.setIfInBounds i (f i)) tm,[]⟩ W') : (Code.region id ops true).wp Try.prog Q ⟨tm,[]⟩ W:=by
 have hw1 : IntKind.i64.wrap (1152921504606846976 + a) = 1152921504606846976 + a:=y27q (by omega) (by omega)
 have hw2 : IntKind.i64.wrap (6 - v.2.2.1) = 6 - v.2.2.1:=y27q (by omega) (by omega)
 have hw3 : IntKind.i64.wrap (b * pow10 (6 - v.2.2.1)) = b * pow10 (6 - v.2.2.1):=y27q (by omega) (by omega)
 have hw4 : IntKind.u8.wrap v.1 = v.1:=by
  simp [IntKind.wrap,IntKind.bits,IntKind.signed]
  omega
 obtain ⟨k1,e1⟩:=lm_u72f (1152921504606846976 + a) ((8 : Nat) : Int) (be (1152921504606846976 + a).toNat 8) (by have:=implBytes (1152921504606846976 + a).toNat 8 (by omega); rwa [Int.toNat_of_nonneg ha0] at this)
 obtain ⟨k2,e2⟩:=lm_u48f (6 - v.2.2.1) _ (implP10 (6 - v.2.2.1) (by omega) (by omega))
 obtain ⟨k3,e3⟩:=lm_u72f (b * pow10 (6 - v.2.2.1)) ((3 : Nat) : Int) (be (b * pow10 (6 - v.2.2.1)).toNat 3) (by have:=implBytes (b * pow10 (6 - v.2.2.1)).toNat 3 (by omega); rwa [Int.toNat_of_nonneg hb0] at this)
 have f1:=e1 (k1 + k2 + k3) (by omega)
 have f2:=e2 (k1 + k2 + k3) (by omega)
 have f3:=e3 (k1 + k2 + k3) (by omega)
 dsimp only at f1 f2 f3
 have hev : evOpsD Γ d22 (k1 + k2 + k3) pre22 (ancs 0 pre22 []) pre22 0 [] (e22 v a b) k22 = some (3 :: (be (1152921504606846976 + a).toNat 8 ++ be (b * pow10 (6 - v.2.2.1)).toNat 3 ++ [UInt8.ofNat v.1.toNat])):=by
  have hcap : (100000 : Nat) ≤ capN:=by decide +kernel
  rw [ev22,hw1,show (8 : Int) = ((8 : Nat) : Int) from rfl,f1,y8q,y2q (by simp only [List.length_cons,List.length_nil,y34q]; omega),hw2,f2,y8q,hw3,show (3 : Int) = ((3 : Nat) : Int) from rfl,f3,y8q,
   y2q (by simp only [List.length_append,List.length_cons,List.length_nil,y34q]; omega),y2q (by simp only [List.length_append,List.length_cons,List.length_nil,y34q,List.length_map]; omega),hw4]
  simp
 let B : Base:=⟨W,W,fun _=>False,keep22.map fun i=>(i,tm.getD i undef)⟩
 let m : St:=⟨W,fun _=>False,fun b=>b = b6,fun _=>0,fun _=>undef,fun _=>False,fun _=>[],fun _ _=>undef⟩
 have hps : B.ps = keep22:=by simp [B,Base.ps,Function.comp_def]
 have hR : Rel B (fun _=>False) 91 [] m (e22 v a b) tm:=by
  refine ⟨⟨Kept.refl B (Below.refl _ _) (fun _ (h : False)=>h.elim),fun i o h=>(by cases h),fun i j c (h : False)=>h.elim,fun i c (h : False)=>h.elim,fun c (h : False)=>h.elim,fun c h=>(by cases h; exact hb6),fun c (h : False)=>h.elim,fun c (h : False)=>h.elim⟩,fun i o h=>(by cases h),⟨hs,fun i u hi=>?_⟩,fun t sv ht=>?_⟩
  ·obtain ⟨j,hj,he⟩:=List.mem_map.1 hi
   obtain ⟨rfl,rfl⟩:=Prod.mk.inj he
   have:=keep_lt j hj
   simp [Array.getD_eq_getD_getElem?,show j < tm.size by omega]
  ·simp only [e22,y14q] at ht
   split at ht
   ·rename_i ht'
    subst ht'
    cases ht
    refine ⟨_,h6,b6,0,_,rfl,rfl,hc, ?_⟩
    exact ⟨[_],_,rfl,rfl,[_],_,rfl,rfl,[_],_,rfl,rfl,[_],_,rfl,⟨_,rfl,rfl⟩,rfl⟩
   ·split at ht
    ·rename_i ht'
     subst ht'
     cases ht
     exact ⟨_,h8,rfl⟩
    ·split at ht
     ·rename_i ht'
      subst ht'
      cases ht
      exact ⟨_,h9,rfl⟩
     ·cases ht
 refine wp_last (by kernel_rfl) hops all22 (by rw [size22]; exact ok22) ?_
 refine draw_any (wo:=W) (w0:=B) (G0:=fun _=>False) (N:=91) (m:=m) (e:=e22 v a b) (k:=k1 + k2 + k3) (K:=k22) y28q del22 rfl (fun o ho=>?_) slots22 hR (fun i (h : False)=>h.elim) hev ?_
 ·rw [hps]
  have:=dstOk22
  rw [List.all_eq_true] at this
  exact this o (by simpa using ho)
 intro m' e' tm' hR' _ hk
 refine ⟨rfl, ?_⟩
 have hold : Below W.heap.size W m'.w:=hR'.ok.base.old
 obtain ⟨s,t73,hsl⟩ : ∃ s : ByteArray,tm'[73]? = some (.string s) ∧ s.data.toList = 3 :: (be (1152921504606846976 + a).toNat 8 ++ be (b * pow10 (6 - v.2.2.1)).toNat 3 ++ [UInt8.ofNat v.1.toNat]):=by
  unfold k22 at hk
  split at hk
  ·rename_i x hx
   obtain ⟨u,hu,s,rfl,hss⟩:=hR'.slots 73 _ hx
   exact ⟨s,hu,hss.trans (Option.some.inj hk)⟩
  ·cases hk
 have hkeep : ∀ i,i ∈ keep22 → tm'[i]? = tm[i]?:=fun i hi=>by
  have h1:=hR'.tms.2 i (tm.getD i undef) (List.mem_map.2 ⟨i,hi,rfl⟩)
  have:=keep_lt i hi
  rw [h1]
  simp [Array.getD_eq_getD_getElem?,show i < tm.size by omega]
 have t4 : tm'[4]? = some (.pointer (some ⟨B0,0,none⟩)):=(hkeep 4 (by decide +kernel)).trans h4
 have v4 : (⟨tm',[]⟩ : Act).eval (.tmp 4) = .pointer (some ⟨B0,0,none⟩):=by simp [Act.eval,Array.getD_eq_getD_getElem?,t4]
 have v73 : (⟨tm',[]⟩ : Act).eval (.tmp 73) = .string s:=by simp [Act.eval,Array.getD_eq_getD_getElem?,t73]
 have hs2 : tm'.size = 91:=hR'.tms.1
 obtain ⟨ts,hop⟩:=op22
 have hslen : s.size = 13:=by
  rw [ba_size,hsl]
  simp [y34q]
 refine call2_wp hop ent124 (by rw [v4,v73]; exact y109q B0 B0 (Lib.byteCells acc) s m'.w (isB_below hI hold) (by rw [Lib.byteCells_length]; omega) (Nat.le_trans hB hold.size)) ?_
 rintro e w' ⟨rfl,h2,hb2⟩
 refine ⟨_,rfl, ?_⟩
 rw [dst22]
 show Q .normal ⟨tm'.setIfInBounds 74 _,[]⟩ w'
 obtain ⟨f,hf⟩:=arr_put (t:=tm) (t':=tm'.setIfInBounds 74 (.tuple #[.int .i64 s.size, .nilIface])) slots22s (by simp; omega) (fun i hi hn=>by
  rw [Array.getElem?_setIfInBounds,if_neg (fun e=>hn (by subst e; decide +kernel))]
  exact hkeep i (mem_keep i (by omega) hn))
 rw [hf]
 refine hQ f w' ?_ ((hold.mono hB).trans hb2)
 rw [Lib.byteCells_append]
 have : Lib.strCells s = Lib.byteCells (3 :: (be (1152921504606846976 + a).toNat 8 ++ be (b * pow10 (6 - v.2.2.1)).toNat 3 ++ [UInt8.ofNat v.1.toNat])):=by
  rw [Lib.strCells_eq,← hsl]
 rw [← this]
 exact h2
end Go.Ev.T2
