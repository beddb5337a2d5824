import Derived.Test.YtmigbnokhhdopaaRrQ1
import Derived.Test.YtmigbnokhhdopaaRrKvDef
set_option linter.unusedSimpArgs false
set_option linter.unusedVariables false
set_option maxRecDepth 100000
namespace Go.Ev.T1
open Go Go.Proofs
noncomputable def nW (n : Int) (b : UInt8) : Int:=bits .or .i64 (IntKind.i64.wrap (n * 2 ^ min (Int.toNat 8) IntKind.i64.bits)) (IntKind.i64.wrap ((b.toNat : Nat) : Int))
def sW (n : Int) (b : UInt8) : Int:=IntKind.i64.wrap (IntKind.i64.wrap (n * 256) + IntKind.i64.wrap ((b.toNat : Nat) : Int))
theorem fold_next {β : Type} (f : β → UInt8 → β) (z : β) (x : List UInt8) {i : Nat} (h : i < x.length) : (x.take (i + 1)).foldl f z = f ((x.take i).foldl f z) (x.getD i 0):=by
 rw [List.take_succ_eq_append_getElem h,List.foldl_append]
 simp [List.getD_eq_getElem?_getD,h]
theorem implNum (x : List UInt8) (hl : x.length ≤ 1048576) : F_u46f x = some (x.foldl nW 0):=by
 unfold F_u46f
 refine Eq.trans (bnd_eq (v:=x.foldl nW 0) ?_) rfl
 unfold F_u46f_l0
 refine loop_run (fun i=>(x,(x.take i).foldl nW 0,((i : Nat) : Int))) x.length _ (fun i C h=>?_) (fun C=>?_) _ 0 (Nat.zero_le _) (by omega)
 ·unfold B_u46f_l0
  rw [fold_next nW 0 x h]
  simp (disch:=omega) only [y10q,Int.toNat_natCast]
  rw [y2q (by omega),y2q (by omega),y2q (by omega),y2q (by omega)]
  rfl
 ·unfold B_u46f_l0
  rw [List.take_length]
  exact y15q (by simp) _ _
theorem specNum (x : List UInt8) (hl : x.length ≤ 1048576) : F_u23f x = some (x.foldl sW 0):=by
 unfold F_u23f
 refine Eq.trans (bnd_eq (v:=x.foldl sW 0) ?_) rfl
 unfold F_u23f_l0
 refine loop_run (fun i=>(x,(x.take i).foldl sW 0,((i : Nat) : Int))) x.length _ (fun i C h=>?_) (fun C=>?_) _ 0 (Nat.zero_le _) (by omega)
 ·unfold B_u23f_l0
  rw [fold_next sW 0 x h]
  simp (disch:=omega) only [y10q,Int.toNat_natCast]
  rw [y2q (by omega),y2q (by omega),y2q (by omega)]
  rfl
 ·unfold B_u23f_l0
  rw [List.take_length]
  exact y15q (by simp) _ _
theorem or_add (a b : Nat) (hb : b < 256) (h : a * 256 + b < 9223372036854775808) : bits .or .i64 ((a * 256 : Nat) : Int) ((b : Nat) : Int) = ((a * 256 + b : Nat) : Int):=by
 have e:=Nat.two_pow_add_eq_or_of_lt (i:=8) (b:=b) hb a
 have hor : a * 256 ||| b = a * 256 + b:=by rw [Nat.mul_comm a 256]; exact e.symm
 have key : (BitVec.ofInt 64 ((a * 256 : Nat) : Int) ||| BitVec.ofInt 64 ((b : Nat) : Int)).toNat = a * 256 + b:=by
  rw [BitVec.toNat_or,BitVec.ofInt_natCast,BitVec.ofInt_natCast,BitVec.toNat_ofNat,BitVec.toNat_ofNat,Nat.mod_eq_of_lt (by omega),Nat.mod_eq_of_lt (by omega),hor]
 show IntKind.i64.wrap (((BitVec.ofInt 64 ((a * 256 : Nat) : Int) ||| BitVec.ofInt 64 ((b : Nat) : Int)).toNat : Nat) : Int) = _
 rw [key]
 exact y27q (by omega) (by omega)
theorem nW_eq (n : Nat) (b : UInt8) (h : n * 256 + b.toNat < 9223372036854775808) : nW (n : Int) b = ((n * 256 + b.toNat : Nat) : Int):=by
 have hb:=b.toNat_lt
 unfold nW
 rw [show ((n : Int) * 2 ^ min (Int.toNat 8) IntKind.i64.bits) = ((n * 256 : Nat) : Int) by show (n : Int) * 256 = _; omega,y27q (by omega) (by omega),y27q (by omega) (by omega),or_add n b.toNat hb h]
theorem sW_eq (n : Nat) (b : UInt8) (h : n * 256 + b.toNat < 9223372036854775808) : sW (n : Int) b = ((n * 256 + b.toNat : Nat) : Int):=by
 have hb:=b.toNat_lt
 unfold sW
 rw [y27q (x:=(n : Int) * 256) (by omega) (by omega),y27q (x:=((b.toNat : Nat) : Int)) (by omega) (by omega),y27q (by omega) (by omega)]
 omega
theorem fold_ge : ∀ (x : List UInt8) (n : Nat),n ≤ x.foldl (fun n b=>n * 256 + b.toNat) n
 | [],n=>Nat.le_refl _
 | b :: x,n=>Nat.le_trans (by omega) (fold_ge x (n * 256 + b.toNat))
theorem fold_eq {f : Int → UInt8 → Int} (hf : ∀ (n : Nat) (b : UInt8),n * 256 + b.toNat < 9223372036854775808 → f (n : Int) b = ((n * 256 + b.toNat : Nat) : Int)) : ∀ (x : List UInt8) (n : Nat),x.foldl (fun n b=>n * 256 + b.toNat) n < 9223372036854775808 → x.foldl f (n : Int) = ((x.foldl (fun n b=>n * 256 + b.toNat) n : Nat) : Int)
 | [],n,_=>rfl
 | b :: x,n,h=>by
  have h1:=fold_ge x (n * 256 + b.toNat)
  simp only [List.foldl_cons] at h ⊢
  rw [hf n b (by omega)]
  exact fold_eq hf x _ h
theorem implNum' (x : List UInt8) (hl : x.length ≤ 1048576) (h : rd x < 9223372036854775808) : F_u46f x = some ((rd x : Nat) : Int):=by
 rw [implNum x hl]
 exact congrArg some (fold_eq nW_eq x 0 h)
theorem specNum' (x : List UInt8) (hl : x.length ≤ 1048576) (h : rd x < 9223372036854775808) : F_u23f x = some ((rd x : Nat) : Int):=by
 rw [specNum x hl]
 exact congrArg some (fold_eq sW_eq x 0 h)
def strip : Nat → Int → Int × Int
 | 0,n=>(n,0)
 | k + 1,n=>if Int.tmod n 10 = 0 then strip k (Int.tdiv n 10) else (n,((k + 1 : Nat) : Int))
def ZV : y0q:=((0 : Int),(0 : Int),(0 : Int),([] : List UInt8),())
theorem tdiv_small {n : Int} (h1 : -4611686018427387904 ≤ n) (h2 : n ≤ 4611686018427387904) : -4611686018427387904 ≤ Int.tdiv n 10 ∧ Int.tdiv n 10 ≤ 4611686018427387904:=by
 have:=Int.mul_tdiv_add_tmod n 10
 have h3:=Int.tmod_lt_of_pos n (show (0 : Int) < 10 by omega)
 have h4:=Int.lt_tmod_of_pos n (show (0 : Int) < 10 by omega)
 omega
theorem implStrip : ∀ (k : Nat) (n : Int) (f : Nat), -4611686018427387904 ≤ n → n ≤ 4611686018427387904 → k ≤ 100 → k < f → forG B_u47f_l0 f (n,(k : Int),ZV) = some ((strip k n).1,(strip k n).2,ZV)
 | 0,n,f + 1,_,_,_,_=>by
  simp only [forG]
  unfold B_u47f_l0
  exact y15q (by simp) _ _
 | k + 1,n,f + 1,h1,h2,hk,hf=>by
  simp only [forG]
  unfold B_u47f_l0
  obtain ⟨h3,h4⟩:=tdiv_small h1 h2
  show br (decide (((k + 1 : Nat) : Int) > 0)) (br (!(10 : Int) == 0) (br (Int.tmod n 10 == 0) (br (!(10 : Int) == 0) (forG B_u47f_l0 f (IntKind.i64.wrap (Int.tdiv n 10),IntKind.i64.wrap (((k + 1 : Nat) : Int) - 1),ZV)) none) (some (n,((k + 1 : Nat) : Int),ZV))) none) (some (n,((k + 1 : Nat) : Int),ZV)) = _
  rw [y2q (by omega),show (!(10 : Int) == 0) = true from rfl]
  by_cases hz : Int.tmod n 10 = 0
  ·rw [beqT _ _ hz,y27q (x:=Int.tdiv n 10) (by omega) (by omega),y27q (x:=((k + 1 : Nat) : Int) - 1) (by omega) (by omega),show ((k + 1 : Nat) : Int) - 1 = (k : Int) by omega]
   show forG B_u47f_l0 f (Int.tdiv n 10,(k : Int),ZV) = _
   rw [implStrip k _ f h3 h4 (by omega) (by omega),strip,if_pos hz]
  ·rw [beqF _ _ hz,strip,if_neg hz]
   rfl
theorem specStrip : ∀ (k : Nat) (n : Int) (f : Nat), -4611686018427387904 ≤ n → n ≤ 4611686018427387904 → k ≤ 100 → k < f → forG B_u26f_l2 f (n,(k : Int),ZV) = some ((strip k n).1,(strip k n).2,ZV)
 | 0,n,f + 1,_,_,_,_=>by
  simp only [forG]
  unfold B_u26f_l2
  exact y15q (by simp) _ _
 | k + 1,n,f + 1,h1,h2,hk,hf=>by
  simp only [forG]
  unfold B_u26f_l2
  obtain ⟨h3,h4⟩:=tdiv_small h1 h2
  show br (decide (((k + 1 : Nat) : Int) > 0)) (br (!(10 : Int) == 0) (br (Int.tmod n 10 == 0) (br (!(10 : Int) == 0) (forG B_u26f_l2 f (IntKind.i64.wrap (Int.tdiv n 10),IntKind.i64.wrap (((k + 1 : Nat) : Int) - 1),ZV)) none) (some (n,((k + 1 : Nat) : Int),ZV))) none) (some (n,((k + 1 : Nat) : Int),ZV)) = _
  rw [y2q (by omega),show (!(10 : Int) == 0) = true from rfl]
  by_cases hz : Int.tmod n 10 = 0
  ·rw [beqT _ _ hz,y27q (x:=Int.tdiv n 10) (by omega) (by omega),y27q (x:=((k + 1 : Nat) : Int) - 1) (by omega) (by omega),show ((k + 1 : Nat) : Int) - 1 = (k : Int) by omega]
   show forG B_u26f_l2 f (Int.tdiv n 10,(k : Int),ZV) = _
   rw [specStrip k _ f h3 h4 (by omega) (by omega),strip,if_pos hz]
  ·rw [beqF _ _ hz,strip,if_neg hz]
   rfl
theorem strip_spec : ∀ (k : Nat) (n : Int),∃ j : Nat,j ≤ k ∧ (strip k n).2 = (j : Int) ∧ n = (strip k n).1 * 10 ^ (k - j) ∧ ((strip k n).2 = 0 ∨ Int.tmod (strip k n).1 10 ≠ 0)
 | 0,n=>⟨0,Nat.le_refl _,rfl,by simp [strip], .inl rfl⟩
 | k + 1,n=>by
  unfold strip
  by_cases hz : Int.tmod n 10 = 0
  ·rw [if_pos hz]
   obtain ⟨j,h1,h2,h3,h4⟩:=strip_spec k (Int.tdiv n 10)
   refine ⟨j,by omega,h2, ?_,h4⟩
   have e:=Int.mul_tdiv_add_tmod n 10
   rw [hz,Int.add_zero,h3] at e
   rw [show k + 1 - j = (k - j) + 1 by omega,Int.pow_succ,← Int.mul_assoc,Int.mul_comm _ 10]
   exact e.symm
  ·rw [if_neg hz]
   exact ⟨k + 1,Nat.le_refl _,rfl,by simp, .inr hz⟩
theorem strip_self (k : Nat) (n : Int) (h : k = 0 ∨ Int.tmod n 10 ≠ 0) : strip k n = (n,(k : Int)):=by
 cases k with
 | zero=>rfl
 | succ k =>
  unfold strip
  rw [if_neg (h.resolve_left (by omega))]
theorem strip_mul (k : Nat) (n : Int) (h : k = 0 ∨ Int.tmod n 10 ≠ 0) : ∀ j : Nat,strip (k + j) (n * 10 ^ j) = (n,(k : Int))
 | 0=>by simpa using strip_self k n h
 | j + 1=>by
  rw [show k + (j + 1) = (k + j) + 1 by omega]
  unfold strip
  have e : n * 10 ^ (j + 1) = n * 10 ^ j * 10:=by rw [Int.pow_succ,Int.mul_assoc]
  rw [e,if_pos (Int.mul_tmod_left _ _),Int.mul_tdiv_cancel _ (by omega)]
  exact strip_mul k n h j
end Go.Ev.T1
