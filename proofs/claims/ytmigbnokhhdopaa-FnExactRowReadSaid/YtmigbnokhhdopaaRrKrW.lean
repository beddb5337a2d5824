import Derived.Test.YtmigbnokhhdopaaRrKrR
import Derived.Test.YtmigbnokhhdopaaRrSbW
import Derived.Test.YtmigbnokhhdopaaRrEvG
import Derived.WalkKit
import Derived.BigCall
set_option linter.unusedSimpArgs false
set_option linter.unusedVariables false
namespace Go.Ev.T2
open Go Go.Proofs Go.Ev.T1 Go.RowKit
theorem fl_neg {N p : Int} (hp : 0 < p) (h : Int.tmod N p < 0) : Int.tdiv N p - 1 = N / p ∧ Int.tmod N p + p = N % p:=by
 have h1:=Int.mul_tdiv_add_tmod N p
 have h2 : -p < Int.tmod N p:=Int.neg_lt_of_neg_lt (by have:=Int.lt_tmod_of_pos N hp; omega)
 have:=(Int.ediv_emod_unique (a:=N) (b:=p) (q:=Int.tdiv N p - 1) (r:=Int.tmod N p + p) hp).2 ⟨by rw [Int.mul_sub]; omega,by omega,by omega⟩
 exact ⟨this.1.symm,this.2.symm⟩
theorem fl_pos {N p : Int} (hp : 0 < p) (h : 0 ≤ Int.tmod N p) : Int.tdiv N p = N / p ∧ Int.tmod N p = N % p:=by
 have h1:=Int.mul_tdiv_add_tmod N p
 have h2:=Int.tmod_lt_of_pos N hp
 have:=(Int.ediv_emod_unique (a:=N) (b:=p) (q:=Int.tdiv N p) (r:=Int.tmod N p) hp).2 ⟨by omega,by omega,by omega⟩
 exact ⟨this.1.symm,this.2.symm⟩
theorem num_ok (N sc p : Int) (hp : pow10 sc = p) (hp0 : 0 < p) (h1 : -1000000000 ≤ N) (h2 : N ≤ 1000000000) (h3 : 0 ≤ sc) (h4 : sc ≤ 6) :
  -1000000000 ≤ N / p ∧ N / p ≤ 1000000000 ∧ 0 ≤ N % p * pow10 (6 - sc) ∧ N % p * pow10 (6 - sc) ≤ 16777216:=by
 have e1 : p * pow10 (6 - sc) = 1000000 ∧ 0 ≤ pow10 (6 - sc):=by
  rw [← hp]
  obtain rfl | rfl | rfl | rfl | rfl | rfl | rfl : sc = 0 ∨ sc = 1 ∨ sc = 2 ∨ sc = 3 ∨ sc = 4 ∨ sc = 5 ∨ sc = 6:=by omega
  all_goals decide
 have e2:=Int.emod_nonneg N (by omega : p ≠ 0)
 have e3:=Int.emod_lt_of_pos N hp0
 have e4:=Int.natAbs_ediv_le_natAbs N p
 have e5:=Int.mul_nonneg e2 e1.2
 have e6:=Int.mul_le_mul_of_nonneg_right (Int.le_of_lt e3) e1.2
 omega
theorem args1 {w : World} {G : Nat → Prop} {t : Ty} {x : t.den} {v : Value} (h : Arg w G (.val t) x v) : Args w G [.val t] (x,()) [v]:=⟨h,rfl⟩
theorem value_arg (v : KV) {w : World} {G : Nat → Prop} : Arg w G (.val T52) v (.agg #[.int .i64 v.1, .int .i64 v.2.1, .int .i64 v.2.2.1, .string ⟨v.2.2.2.1.toArray⟩]) :=
 ⟨[.int .i64 v.1, .int .i64 v.2.1, .int .i64 v.2.2.1, .string ⟨v.2.2.2.1.toArray⟩],⟨[_],_,rfl,rfl,[_],_,rfl,rfl,[_],_,rfl,rfl,[_],_,rfl,⟨_,rfl,rfl⟩,rfl⟩,rfl⟩
theorem value_call {w0 : World} (v : KV) (hl : v.2.2.2.1.length ≤ 1048576) (W : World) (hb : Below w0.heap.size w0 W) :
  Calls Try.prog 61 #[.agg #[.int .i64 v.1, .int .i64 v.2.1, .int .i64 v.2.2.1, .string ⟨v.2.2.2.1.toArray⟩]] W fun e w'=>(∃ b : Bool,(b = true ↔ VOK v) ∧ e = .returned (.bool b)) ∧ Below W.heap.size W w':=by
 obtain ⟨k,b,hk,hvb⟩ : ∃ k b,u52f k v = some b ∧ (b = true ↔ VOK v):=by
  by_cases h : VOK v
  ·obtain ⟨k,hk⟩:=value_yes hl h
   exact ⟨k,true,hk,by simp [h]⟩
  ·obtain ⟨k,hk⟩:=value_no hl h
   exact ⟨k,false,hk,by simp [h]⟩
 refine ((ok_u52f stops0).1 rfl k (v,()) b W (fun _=>False) [_] hb (fun _ h=>h.elim) hk (args1 (value_arg v))).mono ?_
 rintro e w' ⟨r,rfl,h1,u,rfl,cs,h2,h3⟩
 have h2 : cs = [.bool b]:=h2
 have h3 : cs = [u]:=h3
 subst h2
 obtain rfl:=(List.cons.inj h3).1
 exact ⟨⟨b,hvb,rfl⟩,h1⟩
theorem p10_call {w0 : World} (n : Int) (h0 : 0 ≤ n) (h6 : n ≤ 6) (W : World) (hb : Below w0.heap.size w0 W) :
  Calls Try.prog 56 #[.int .i64 n] W fun e w'=>e = .returned (.int .i64 (pow10 n)) ∧ Below W.heap.size W w':=by
 obtain ⟨k,hk⟩:=p10_ok n h0 h6
 refine ((ok_u48f stops0).1 rfl k (n,()) (pow10 n) W (fun _=>False) [_] hb (fun _ h=>h.elim) hk (args1 ⟨[_],rfl,rfl⟩)).mono ?_
 rintro e w' ⟨r,rfl,h1,u,rfl,cs,h2,h3⟩
 have h2 : cs = [.int .i64 (pow10 n)]:=h2
 have h3 : cs = [u]:=h3
 subst h2
 obtain rfl:=(List.cons.inj h3).1
 exact ⟨rfl,h1⟩
theorem bytes_call {w0 : World} (n : Int) (K : Nat) (h0 : 0 ≤ n) (hK : K ≤ 1000) (W : World) (hb : Below w0.heap.size w0 W) :
  Calls Try.prog 78 #[.int .i64 n, .int .i64 K] W fun e w'=>e = .returned (.string ⟨(be n.toNat K).toArray⟩) ∧ Below W.heap.size W w':=by
 obtain ⟨k,hk⟩:=bytes_ok n K h0 hK
 refine ((ok_u72f stops0).1 rfl k (n,(K : Int),()) (be n.toNat K) W (fun _=>False) [_,_] hb (fun _ h=>h.elim) hk ⟨⟨[_],rfl,rfl⟩,⟨[_],rfl,rfl⟩,rfl⟩).mono ?_
 rintro e w' ⟨r,rfl,h1,u,rfl,cs,⟨s,h2,h4⟩,h3⟩
 have h3 : cs = [u]:=h3
 subst h2
 obtain rfl:=(List.cons.inj h3).1
 refine ⟨?_,h1⟩
 show Ending.returned (.string s) = _
 congr 2
 obtain ⟨s⟩:=s
 rw [← h4]
theorem ba_len (x : List UInt8) : (⟨x.toArray⟩ : ByteArray).size = x.length:=by simp [ByteArray.size]
theorem conv_row (w : World) (a : Addr) (n c : Nat) (ns : List Int) (hn : ns.length = n) (h : ∀ j v,(ns.map (Value.int .u8))[j]? = some v → w.cell? (a.add j) = some v) :
  (convert 96 9 (.slice (some a) n c)).run Try.prog w = .ok (.string ⟨(ns.map fun n=>UInt8.ofNat n.toNat).toArray⟩) w:=by
 subst hn
 rw [run_convert_bytes_string w 96 9 5 (some a) _ c Try.underlying96 Try.underlying5 Try.underlying9,run_bytesToString w a ns.length c ns]
 ·congr 2
  have key : ∀ (l : List Int) (r : ByteArray),l.foldl (fun r n=>r.push (UInt8.ofNat n.toNat)) r = ⟨r.data ++ (l.map fun n=>UInt8.ofNat n.toNat).toArray⟩:=by
   intro l
   induction l with
   | nil=>intro r; simp
   | cons x l ih =>
    intro r
    rw [List.foldl_cons,ih]
    apply ByteArray.ext
    simp [ByteArray.push]
  rw [key]
  apply ByteArray.ext
  simp
 ·have:=run_loadCells_list (P:=Try.prog) w a (ns.map (Value.int .u8)) h
  rwa [List.length_map] at this
theorem flat_le : ∀ (l : List KV),(∀ v ∈ l,VOK v) → (l.flatMap encV).length ≤ 202 * l.length
 | [],_=>by simp
 | v :: r,h=>by
  have h1:=flat_le r fun x hx=>h x (List.mem_cons_of_mem _ hx)
  have h2:=encV_le v (h v List.mem_cons_self)
  simp only [List.flatMap_cons,List.length_append,List.length_cons]
  omega
theorem take_next {l : List KV} {i : Nat} {v : KV} (hi : i < l.length) (hv : l.getD i (Ty.zero T52) = v) : l.take (i + 1) = l.take i ++ [v]:=by
 rw [List.take_succ_eq_append_getElem hi,← hv]
 simp [List.getD_eq_getElem?_getD,hi]
theorem cells_strCells (x : List UInt8) : Lib.strCells ⟨x.toArray⟩ = Lib.byteCells x:=by
 rw [Lib.strCells_eq]
set_option maxHeartbeats 4000000 in
set_option maxRecDepth 1000000 in
theorem keyBytes_walk {w0 : World} (l : List KV) (hl : ∀ v ∈ l,v.2.2.2.1.length ≤ 1048576) (w : World) (a : Addr) (n c : Nat) (ha : a.spot = none) (hab : a.block < w.heap.size) (hn : l.length = n) (hnc : n ≤ c)
  (hk : ∀ j,j < n → w.cell? ⟨a.block,a.off + j * 4,none⟩ = some (.int .i64 (l.getD j (Ty.zero T52)).1))
  (hN : ∀ j,j < n → w.cell? ⟨a.block,a.off + j * 4 + 1,none⟩ = some (.int .i64 (l.getD j (Ty.zero T52)).2.1))
  (hc : ∀ j,j < n → w.cell? ⟨a.block,a.off + j * 4 + 2,none⟩ = some (.int .i64 (l.getD j (Ty.zero T52)).2.2.1))
  (hs : ∀ j,j < n → w.cell? ⟨a.block,a.off + j * 4 + 3,none⟩ = some (.string ⟨(l.getD j (Ty.zero T52)).2.2.2.1.toArray⟩)) :
  Calls Try.prog 58 #[.slice (some a) n c] w fun e w'=>e = .returned (.tuple #[.string ⟨(KB l).1.toArray⟩, .int .i64 (KB l).2]) ∧ Below w.heap.size w w':=by
 obtain ⟨ab,ao,sp⟩:=a
 dsimp only at ha hab hk hN hc hs
 subst ha
 by_cases h16 : 16 < n
 ·go_enter Try.func58,Try.ntmps58
  go_wp2
  go_ret2
  have e1 : KB l = ([],1):=KB_neg fun h=>by omega
  rw [e1]
  exact ⟨rfl,Below.refl _ _⟩
 ·go_enter Try.func58,Try.ntmps58
  go_wp2
  go_loopw [15] (fun vi wr=>∃ (i : Nat),vi = .int .i64 i ∧ i ≤ n ∧ (∀ v ∈ l.take i,VOK v) ∧ Lib.IsBuilderF 105 5 w.heap.size w.heap.size (Lib.byteCells ((l.take i).flatMap encV)) wr ∧ Below w.heap.size w wr) (fun vi _=>n - (RowKit.intOf vi).toNat)
  case atStart =>
   exact ⟨0,rfl,Nat.zero_le _,fun v hv=>by simp at hv,Lib.IsBuilderF.of (Lib.fresh_isBuilder 105 5 w),(Below.refl _ w).alloc (Nat.le_refl _) _⟩
  case round =>
   obtain ⟨i,rfl,hin,hvok,hI,hbw⟩:=hrel
   by_cases hi : i < n
   ·have hi' : (i : Int) < n:=by omega
    have k0 : wr.cell? ⟨ab,ao + i * 4,none⟩ = some (.int .i64 (l.getD i (Ty.zero T52)).1):=(hbw.cell (p:=⟨ab,_,none⟩) hab).trans (hk i hi)
    have k1 : wr.cell? ⟨ab,ao + i * 4 + 1,none⟩ = some (.int .i64 (l.getD i (Ty.zero T52)).2.1):=(hbw.cell (p:=⟨ab,_,none⟩) hab).trans (hN i hi)
    have k2 : wr.cell? ⟨ab,ao + i * 4 + 2,none⟩ = some (.int .i64 (l.getD i (Ty.zero T52)).2.2.1):=(hbw.cell (p:=⟨ab,_,none⟩) hab).trans (hc i hi)
    have k3 : wr.cell? ⟨ab,ao + i * 4 + 3,none⟩ = some (.string ⟨(l.getD i (Ty.zero T52)).2.2.2.1.toArray⟩):=(hbw.cell (p:=⟨ab,_,none⟩) hab).trans (hs i hi)
    generalize hvv : l.getD i (Ty.zero T52) = v at k0 k1 k2 k3
    have hm : v ∈ l:=by
     rw [← hvv,List.getD_eq_getElem?_getD,List.getElem?_eq_getElem (by omega),Option.getD_some]
     exact List.getElem_mem _
    go_wp2_with (go_at_call 61; refine (value_call (w0:=w) v (hl v hm) _ (hbw.alloc hbw.size _)).mono ?_)
    rintro e W1 ⟨⟨b,hvb,rfl⟩,b1⟩
    have hI1:=isB_below (hI.alloc _) b1
    have hbw1:=(hbw.alloc hbw.size _).trans (b1.mono (by have:=hbw.size; simp; omega))
    have c0 : W1.cell? ⟨wr.heap.size,0,none⟩ = some (.int .i64 v.1):=(b1.cell (p:=⟨_,_,none⟩) (by simp)).trans (y148q wr _ 52 rfl)
    have c1 : W1.cell? ⟨wr.heap.size,1,none⟩ = some (.int .i64 v.2.1):=(b1.cell (p:=⟨_,_,none⟩) (by simp)).trans (y148q wr _ 52 rfl)
    have c2 : W1.cell? ⟨wr.heap.size,2,none⟩ = some (.int .i64 v.2.2.1):=(b1.cell (p:=⟨_,_,none⟩) (by simp)).trans (y148q wr _ 52 rfl)
    have c3 : W1.cell? ⟨wr.heap.size,3,none⟩ = some (.string ⟨v.2.2.2.1.toArray⟩):=(b1.cell (p:=⟨_,_,none⟩) (by simp)).trans (y148q wr _ 52 rfl)
    have hsz : wr.heap.size < W1.heap.size:=by have:=b1.size; simp at this; omega
    have hacc:=flat_le (l.take i) hvok
    have htl : (l.take i).length = i:=by rw [List.length_take]; omega
    rw [htl] at hacc
    have htn:=take_next (by omega) hvv
    cases b with
    | false =>
     go_wp2
     go_ret2
     have e1 : KB l = ([],1):=KB_neg fun h=>by
      have:=hvb.2 (h.2 v hm)
      cases this
     rw [e1]
     exact ⟨rfl,hbw1⟩
    | true =>
     have hv:=hvb.1 rfl
     clear hvb
     have hv' : ∀ x ∈ l.take (i + 1),VOK x:=by
      rw [htn]
      intro x hx
      rcases List.mem_append.1 hx with h | h
      ·exact hvok x h
      ·rw [List.mem_singleton.1 h]; exact hv
     have hv0:=hv
     rcases hv with ⟨z,q1,q2,q3⟩ | ⟨z,q1,q2,q3,q4⟩ | ⟨z,q1,q2,q3,q4⟩ | ⟨z,q1,q2,q3,q4,q5,q6⟩ | ⟨z,q1,q2,q3,q4⟩ | ⟨z,q1,q2,q3,q4⟩
     ·rw [z] at c0
      go_wp2_with (go_at_call 76; refine (sb_writeByte w.heap.size w.heap.size (Lib.byteCells ((l.take i).flatMap encV)) 1 _ hI1 (by rw [Lib.byteCells_length]; omega) hbw1.size).mono ?_)
      rintro e W2 ⟨rfl,h2,b2⟩
      go_wp2
      go_roundw
      case rel =>
       refine ⟨i + 1,by go_num,by omega,hv', ?_,hbw1.trans b2⟩
       have e1 : encV v = [1]:=by simp [encV,z]
       rw [htn,List.flatMap_append,List.flatMap_cons,List.flatMap_nil,List.append_nil,e1,Lib.byteCells_append]
       exact h2
      case measure=>simp [RowKit.intOf]; omega
     ·rw [z] at c0
      go_wp2_with (go_at_call 77; fail)
      rw [conv_row _ _ 2 2 [2,v.2.1] rfl ?cells]
      case cells =>
       intro j u hj
       match j,hj with
       | 0,hj=>simp at hj; subst hj; exact y148q W1 _ 5 rfl
       | 1,hj=>simp at hj; subst hj; exact y148q W1 _ 5 rfl
       | j + 2,hj=>simp at hj
      simp only [Result.andThen]
      rw [Oper.upon_value]
      have hbw2:=hbw1.alloc hbw1.size (.cells #[.int .u8 2, .int .u8 v.2.1] 5)
      go_wp2_with (go_at_call 77; refine (y109q w.heap.size w.heap.size (Lib.byteCells ((l.take i).flatMap encV)) ⟨([2,UInt8.ofNat v.2.1.toNat]).toArray⟩ _ (hI1.alloc _) (by rw [Lib.byteCells_length,ba_len]; simp only [List.length_cons,List.length_nil]; omega) hbw2.size).mono ?_)
      rintro e W3 ⟨rfl,h3,b3⟩
      go_wp2
      go_roundw
      case rel =>
       refine ⟨i + 1,by go_num,by omega,hv', ?_,hbw2.trans b3⟩
       rw [htn,List.flatMap_append,List.flatMap_cons,List.flatMap_nil,List.append_nil,Lib.byteCells_append]
       rw [cells_strCells] at h3
       have e1 : encV v = [2,UInt8.ofNat v.2.1.toNat]:=by simp [encV,z]
       rw [e1]
       exact h3
      case measure=>simp [RowKit.intOf]; omega
     ·rw [z] at c0
      have hp1 : pow10 0 = 1:=rfl
      rw [q3] at c2
      go_wp2_with (go_at_call 56; refine (p10_call (w0:=w) 0 (by omega) (by omega) _ hbw1).mono ?_)
      rintro e W2 ⟨rfl,b2⟩
      rw [hp1]
      have hI2:=isB_below hI1 b2
      have hbw2:=hbw1.trans (b2.mono hbw1.size)
      have d0 : W2.cell? ⟨wr.heap.size,0,none⟩ = some (.int .i64 2):=(b2.cell (p:=⟨_,_,none⟩) hsz).trans c0
      have d1 : W2.cell? ⟨wr.heap.size,1,none⟩ = some (.int .i64 v.2.1):=(b2.cell (p:=⟨_,_,none⟩) hsz).trans c1
      have d2 : W2.cell? ⟨wr.heap.size,2,none⟩ = some (.int .i64 0):=(b2.cell (p:=⟨_,_,none⟩) hsz).trans c2
      go_wp2
      refine region22 (v:=v) (acc:=(l.take i).flatMap encV) (by kernel_rfl) rfl rfl rfl rfl rfl (Nat.lt_of_lt_of_le hsz b2.size) ?hcells ?h1 ?h2 ?h3 ?h4 ?h5 ?h6 ?h7 ?h8 hI2 (by omega) hbw2.size ?hq
      case hcells =>
       intro j u hj
       match j,hj with
       | 0,hj=>simp at hj; subst hj; rw [z]; exact d0
       | 1,hj=>simp at hj; subst hj; exact d1
       | 2,hj=>simp at hj; subst hj; rw [q3]; exact d2
       | 3,hj=>simp at hj; subst hj; exact (b2.cell (p:=⟨_,_,none⟩) hsz).trans c3
       | j + 4,hj=>simp at hj
      case h1=>omega
      case h2=>omega
      case h3=>omega
      case h4=>omega
      case h5=>simp
      case h6=>simp
      case h7=>omega
      case h8=>omega
      case hq =>
       intro f W3 h3 b3
       simp only [slots22s,List.foldl_cons,List.foldl_nil]
       go_wp2
       go_roundw
       case rel =>
        refine ⟨i + 1,by go_num,by omega,hv', ?_,hbw2.trans b3⟩
        rw [htn,List.flatMap_append,List.flatMap_cons,List.flatMap_nil,List.append_nil]
        have e1 : encV v = 3 :: (be (1152921504606846976 + v.2.1).toNat 8 ++ be (0 * pow10 (6 - v.2.2.1)).toNat 3 ++ [UInt8.ofNat v.1.toNat]):=by
         simp [encV,z,q3,hp1,Int.emod_one]
        rw [e1]
        exact h3
       case measure=>simp [RowKit.intOf]; omega
     ·rw [z] at c0
      obtain ⟨p,hp,hp0,hp6⟩ : ∃ p : Int,pow10 v.2.2.1 = p ∧ 0 < p ∧ p ≤ 1000000:=by
       obtain h | h | h | h | h | h | h : v.2.2.1 = 0 ∨ v.2.2.1 = 1 ∨ v.2.2.1 = 2 ∨ v.2.2.1 = 3 ∨ v.2.2.1 = 4 ∨ v.2.2.1 = 5 ∨ v.2.2.1 = 6:=by omega
       all_goals exact ⟨_,rfl,by rw [h]; decide,by rw [h]; decide⟩
      go_wp2_with (go_at_call 56; refine (p10_call (w0:=w) v.2.2.1 q3 q4 _ hbw1).mono ?_)
      rintro e W2 ⟨rfl,b2⟩
      rw [hp]
      have hI2:=isB_below hI1 b2
      have hbw2:=hbw1.trans (b2.mono hbw1.size)
      have d0 : W2.cell? ⟨wr.heap.size,0,none⟩ = some (.int .i64 3):=(b2.cell (p:=⟨_,_,none⟩) hsz).trans c0
      have d1 : W2.cell? ⟨wr.heap.size,1,none⟩ = some (.int .i64 v.2.1):=(b2.cell (p:=⟨_,_,none⟩) hsz).trans c1
      have d2 : W2.cell? ⟨wr.heap.size,2,none⟩ = some (.int .i64 v.2.2.1):=(b2.cell (p:=⟨_,_,none⟩) hsz).trans c2
      have hp1 : p ≠ 0:=by omega
      obtain ⟨hn1,hn2,hn3,hn4⟩:=num_ok v.2.1 v.2.2.1 p hp hp0 q1 q2 q3 q4
      by_cases hr : Int.tmod v.2.1 p < 0
      ·obtain ⟨hf1,hf2⟩:=fl_neg hp0 hr
       have hwm : wrap64 (v.2.1 % p) = v.2.1 % p:=by
        have e2:=Int.emod_nonneg v.2.1 hp1
        have e3:=Int.emod_lt_of_pos v.2.1 hp0
        unfold wrap64
        omega
       go_wp2
       refine region22 (v:=v) (acc:=(l.take i).flatMap encV) (by kernel_rfl) rfl rfl rfl rfl rfl (Nat.lt_of_lt_of_le hsz b2.size) ?hcells ?h1 ?h2 ?h3 ?h4 ?h5 ?h6 ?h7 ?h8 hI2 (by omega) hbw2.size ?hq
       case hcells =>
        intro j u hj
        match j,hj with
        | 0,hj=>simp at hj; subst hj; rw [z]; exact d0
        | 1,hj=>simp at hj; subst hj; exact d1
        | 2,hj=>simp at hj; subst hj; exact d2
        | 3,hj=>simp at hj; subst hj; exact (b2.cell (p:=⟨_,_,none⟩) hsz).trans c3
        | j + 4,hj=>simp at hj
       case h1=>omega
       case h2=>omega
       case h3=>omega
       case h4=>omega
       case h5=>rw [hwm]; exact hn3
       case h6=>rw [hwm]; exact hn4
       case h7=>omega
       case h8=>omega
       case hq =>
        intro f W3 h3 b3
        rw [hwm] at h3
        simp only [slots22s,List.foldl_cons,List.foldl_nil]
        go_wp2
        go_roundw
        case rel =>
         refine ⟨i + 1,by go_num,by omega,hv', ?_,hbw2.trans b3⟩
         rw [htn,List.flatMap_append,List.flatMap_cons,List.flatMap_nil,List.append_nil]
         have e1 : encV v = 3 :: (be (1152921504606846976 + v.2.1 / p).toNat 8 ++ be (v.2.1 % p * pow10 (6 - v.2.2.1)).toNat 3 ++ [UInt8.ofNat v.1.toNat]):=by
          simp [encV,z,hp]
         rw [e1]
         exact h3
        case measure=>simp [RowKit.intOf]; omega
      ·obtain ⟨hf1,hf2⟩:=fl_pos hp0 (Int.not_lt.1 hr)
       go_wp2
       refine region22 (v:=v) (acc:=(l.take i).flatMap encV) (by kernel_rfl) rfl rfl rfl rfl rfl (Nat.lt_of_lt_of_le hsz b2.size) ?hcells ?h1 ?h2 ?h3 ?h4 ?h5 ?h6 ?h7 ?h8 hI2 (by omega) hbw2.size ?hq
       case hcells =>
        intro j u hj
        match j,hj with
        | 0,hj=>simp at hj; subst hj; rw [z]; exact d0
        | 1,hj=>simp at hj; subst hj; exact d1
        | 2,hj=>simp at hj; subst hj; exact d2
        | 3,hj=>simp at hj; subst hj; exact (b2.cell (p:=⟨_,_,none⟩) hsz).trans c3
        | j + 4,hj=>simp at hj
       case h1=>omega
       case h2=>omega
       case h3=>omega
       case h4=>omega
       case h5=>exact hn3
       case h6=>exact hn4
       case h7=>omega
       case h8=>omega
       case hq =>
        intro f W3 h3 b3
        simp only [slots22s,List.foldl_cons,List.foldl_nil]
        go_wp2
        go_roundw
        case rel =>
         refine ⟨i + 1,by go_num,by omega,hv', ?_,hbw2.trans b3⟩
         rw [htn,List.flatMap_append,List.flatMap_cons,List.flatMap_nil,List.append_nil]
         have e1 : encV v = 3 :: (be (1152921504606846976 + v.2.1 / p).toNat 8 ++ be (v.2.1 % p * pow10 (6 - v.2.2.1)).toNat 3 ++ [UInt8.ofNat v.1.toNat]):=by
          simp [encV,z,hp]
         rw [e1]
         exact h3
        case measure=>simp [RowKit.intOf]; omega
     ·rw [z] at c0
      have e0 : (⟨#[4]⟩ ++ ⟨v.2.2.2.1.toArray⟩ ++ ⟨#[0]⟩ : ByteArray) = ⟨(4 :: (v.2.2.2.1 ++ [0])).toArray⟩:=by
       apply ByteArray.ext
       simp
      go_wp2_with (go_at_call 77; refine (y109q w.heap.size w.heap.size (Lib.byteCells ((l.take i).flatMap encV)) ⟨(4 :: (v.2.2.2.1 ++ [0])).toArray⟩ _ hI1 (by rw [Lib.byteCells_length,ba_len]; simp only [List.length_cons,List.length_append,List.length_nil]; omega) hbw1.size).mono ?_)
      rintro e W2 ⟨rfl,h2,b2⟩
      go_wp2
      go_roundw
      case rel =>
       refine ⟨i + 1,by go_num,by omega,hv', ?_,hbw1.trans b2⟩
       rw [htn,List.flatMap_append,List.flatMap_cons,List.flatMap_nil,List.append_nil,Lib.byteCells_append]
       rw [cells_strCells] at h2
       have e1 : encV v = 4 :: (v.2.2.2.1 ++ [0]):=by simp [encV,z]
       rw [e1]
       exact h2
      case measure=>simp [RowKit.intOf]; omega
     ·rw [z] at c0
      have e0 : (⟨#[5]⟩ ++ ⟨(be v.2.1.toNat 3).toArray⟩ : ByteArray) = ⟨(5 :: be v.2.1.toNat 3).toArray⟩:=by
       apply ByteArray.ext
       simp
      go_wp2_with (go_at_call 78; refine (bytes_call (w0:=w) v.2.1 3 q1 (by omega) _ hbw1).mono ?_)
      rintro e W2 ⟨rfl,b2⟩
      have hI2:=isB_below hI1 b2
      have hbw2:=hbw1.trans (b2.mono hbw1.size)
      go_wp2_with (go_at_call 77; refine (y109q w.heap.size w.heap.size (Lib.byteCells ((l.take i).flatMap encV)) ⟨(5 :: be v.2.1.toNat 3).toArray⟩ _ hI2 (by rw [Lib.byteCells_length,ba_len]; simp only [List.length_cons,y34q]; omega) hbw2.size).mono ?_)
      rintro e W3 ⟨rfl,h3,b3⟩
      go_wp2
      go_roundw
      case rel =>
       refine ⟨i + 1,by go_num,by omega,hv', ?_,hbw2.trans b3⟩
       rw [htn,List.flatMap_append,List.flatMap_cons,List.flatMap_nil,List.append_nil,Lib.byteCells_append]
       rw [cells_strCells] at h3
       have e1 : encV v = 5 :: be v.2.1.toNat 3:=by simp [encV,z]
       rw [e1]
       exact h3
      case measure=>simp [RowKit.intOf]; omega
   ·have hi' : ¬ ((i : Int) < n):=by omega
    obtain rfl : i = n:=by omega
    go_wp2_with (go_at_call 79; refine (Try.Builder_String_any_k w.heap.size w.heap.size ((l.take i).flatMap encV) _ hI hbw.size).mono ?_)
    rintro e W1 rfl _ b1 _
    go_wp2
    go_ret2
    rw [List.take_of_length_le (by omega)] at hvok
    have e1 : KB l = (l.flatMap encV,0):=KB_pos (by omega) hvok
    rw [e1,List.take_of_length_le (by omega)]
    exact ⟨rfl,hbw.trans b1⟩
set_option maxHeartbeats 4000000 in
set_option maxRecDepth 1000000 in
theorem keyBytes_nil (A : Option Addr) (c : Nat) (w : World) : Calls Try.prog 58 #[.slice A 0 c] w fun e w'=>e = .returned (.tuple #[.string ⟨#[]⟩, .int .i64 0]) ∧ Below w.heap.size w w':=by
 go_enter Try.func58,Try.ntmps58
 go_wp2
 go_loopw [15] (fun vi wr=>vi = .int .i64 0 ∧ Lib.IsBuilderF 105 5 w.heap.size w.heap.size (Lib.byteCells []) wr ∧ Below w.heap.size w wr) (fun vi _=>0 - (RowKit.intOf vi).toNat)
 case atStart=>exact ⟨rfl,Lib.IsBuilderF.of (Lib.fresh_isBuilder 105 5 w),(Below.refl _ w).alloc (Nat.le_refl _) _⟩
 case round =>
  obtain ⟨rfl,hI,hbw⟩:=hrel
  go_wp2_with (go_at_call 79; refine (Try.Builder_String_any_k w.heap.size w.heap.size [] _ hI hbw.size).mono ?_)
  rintro e W1 ⟨rfl,_,b1,_⟩
  go_wp2
  go_ret2
  exact ⟨rfl,hbw.trans b1⟩
theorem keyBytes_ok {w0 : World} : ConOk Try.prog w0 58 ⟨[.val T31],[T9,T3],fun k x=>chk (x.1.all fun v=>Nat.ble v.2.2.2.1.length 1048576) (some (KB x.1))⟩:=by
 intro k x r w G args hb hG hr hargs
 obtain ⟨hall,hr2⟩:=chk_some hr
 obtain rfl:=Option.some.inj hr2
 have hl : ∀ v ∈ x.1,v.2.2.2.1.length ≤ 1048576:=fun v hv=>Nat.le_of_ble_eq_true (List.all_eq_true.1 hall v hv)
 match args,hargs with
 | [u],⟨⟨cs,⟨A,n,c,e1,hn,hnc,hel⟩,ha⟩,_⟩ =>
 have ha : cs = [u]:=ha
 subst e1
 obtain rfl:=(List.cons.inj ha).1
 have fin : Calls Try.prog 58 #[.slice A n c] w fun e w'=>e = .returned (.tuple #[.string ⟨(KB x.1).1.toArray⟩, .int .i64 (KB x.1).2]) ∧ Below w.heap.size w w':=by
  by_cases h0 : n = 0
  ·subst h0
   have : x.1 = []:=List.length_eq_zero_iff.1 hn
   rw [this,KB_pos (by simp) (by simp)]
   exact keyBytes_nil A c w
  ·obtain ⟨a,_,rfl,hsp,hGa,_⟩:=hel 0 (by omega)
   have hcell : ∀ j,j < n → w.cell? ⟨a.block,a.off + j * 4,none⟩ = some (.int .i64 (x.1.getD j (Ty.zero T52)).1) ∧ w.cell? ⟨a.block,a.off + j * 4 + 1,none⟩ = some (.int .i64 (x.1.getD j (Ty.zero T52)).2.1) ∧
     w.cell? ⟨a.block,a.off + j * 4 + 2,none⟩ = some (.int .i64 (x.1.getD j (Ty.zero T52)).2.2.1) ∧ w.cell? ⟨a.block,a.off + j * 4 + 3,none⟩ = some (.string ⟨(x.1.getD j (Ty.zero T52)).2.2.2.1.toArray⟩):=fun j hj=>by
    obtain ⟨a',cs',ea,_,_,hc,hv⟩:=hel j (by omega)
    obtain rfl:=Option.some.inj ea
    obtain ⟨_,_,rfl,rfl,_,_,rfl,rfl,_,_,rfl,rfl,_,_,rfl,⟨s,rfl,hs⟩,rfl⟩:=hv
    refine ⟨hc 0 _ rfl,hc 1 _ rfl,hc 2 _ rfl,(hc 3 _ rfl).trans ?_⟩
    congr 2
    obtain ⟨s⟩:=s
    rw [← hs]
   exact keyBytes_walk (w0:=w0) x.1 hl w a n c hsp (hG _ hGa) hn hnc (fun j hj=>(hcell j hj).1) (fun j hj=>(hcell j hj).2.1) (fun j hj=>(hcell j hj).2.2.1) (fun j hj=>(hcell j hj).2.2.2)
 refine fin.mono ?_
 rintro e w' ⟨rfl,hB⟩
 exact ⟨[.string ⟨(KB x.1).1.toArray⟩, .int .i64 (KB x.1).2],rfl,hB,_,_,rfl,⟨_,⟨_,rfl,rfl⟩,rfl⟩,_,rfl,_,rfl,rfl⟩
end Go.Ev.T2
