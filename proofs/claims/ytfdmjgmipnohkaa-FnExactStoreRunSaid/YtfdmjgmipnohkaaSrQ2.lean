import Derived.Test.YtfdmjgmipnohkaaSrQ1
import Derived.Test.YtfdmjgmipnohkaaSrEvH
set_option linter.unusedSimpArgs false
set_option linter.unusedVariables false
namespace Go.Ev.T1
open Go Go.Proofs
theorem brT {X : Type} (x y : Option X) : br true x y = x := rfl
theorem brF {X : Type} (x y : Option X) : br false x y = y := rfl
theorem y33q {α : Type} {l : List α} {i : Nat} {z : α} (h : i < l.length) : l.getD i z = l[i] := by simp [List.getD_eq_getElem?_getD, h]
theorem srtOk (xs : List y0q) : SrtOk y1q (fun ys i j => bnd (F_u40f i j ys) fun y => some y) xs ahead := by
 refine ⟨y32q, fun ys hy _ i j hi hj => ?_⟩
 show bnd (F_u40f i j ys) _ = _
 unfold F_u40f
 rw [y2q (by omega), y2q (by omega), y2q (by omega), y2q (by omega), implBefore]
 simp only [Int.toNat_natCast]
 rfl
def rawAll (s : y3q) : List y0q := s.1 ++ s.2.1.flatMap fun r => r.1
theorem implAll (s : y3q) (h1 : s.2.1.length ≤ 1048576) (h2 : (rawAll s).length ≤ 1048576) : F_u41f s = some (stab ahead (rawAll s)) := by
 have hr : (rawAll s).length = s.1.length + (s.2.1.flatMap fun r => r.1).length := by simp [rawAll]
 have key : F_u41f_l0 s.1 s.2.1 ((s.2.1.length : Nat) : Int) 0 = some (rawAll s) := by
  unfold F_u41f_l0
  have := y38q (B := B_u41f_l0) (fun i => (s.1 ++ (s.2.1.take i).flatMap (fun r => r.1), s.2.1, ((s.2.1.length : Nat) : Int), ((i : Nat) : Int))) s.2.1.length (some (rawAll s)) (fun i C hi => ?_) (fun C => ?_) (((s.2.1.length : Nat) : Int).toNat + 1) 0 (Nat.zero_le _) (by simp)
  ·simpa using this
  ·unfold B_u41f_l0
   have hm : ((s.2.1.take i).flatMap fun r => r.1).length + (s.2.1.getD i ZRun).1.length ≤ (s.2.1.flatMap fun r => r.1).length := by
    have : s.2.1 = s.2.1.take i ++ (s.2.1[i] :: s.2.1.drop (i + 1)) := by rw [List.getElem_cons_drop, List.take_append_drop]
    rw [y33q hi]
    conv => rhs; rw [this]
    rw [List.flatMap_append, List.flatMap_cons]
    simp only [List.length_append]; omega
   simp (disch := omega) only [y9q, Int.toNat_natCast]
   rw [y2q (by omega), y2q (by omega), y2q (by omega), y2q (by simp only [List.length_append]; unfold capN; omega)]
   congr 2
   rw [List.take_succ_eq_append_getElem hi, List.flatMap_append, y33q hi]
   simp
  ·unfold B_u41f_l0
   rw [y11q (by simp)]
   simp [rawAll]
 unfold F_u41f
 rw [y2q (by unfold capN; omega), key]
 show br _ _ _ = _
 rw [y2q (by unfold capN; omega), srt_eq (srtOk _)]
 rfl
theorem specJoin (a b : List y0q) (h : a.length + b.length ≤ 1048576) : F_u7f a b = some (mrg ahead b a) := by
 have key : ∀ n i k (out : List y0q), i ≤ a.length → k ≤ b.length → out.length = i + k → a.length + b.length < n + i + k → forG B_u7f_l0 n (a, b, out, ((i : Nat) : Int), ((k : Nat) : Int)) = some (out ++ mrg ahead (b.drop k) (a.drop i)) := by
  intro n
  induction n with
  | zero => intro i k out h1 h2 h3 h4; omega
  | succ n ih =>
   intro i k out h1 h2 h3 h4
   have takeA : i < a.length → forG B_u7f_l0 n (a, b, out ++ [a.getD i y1q], ((i + 1 : Nat) : Int), ((k : Nat) : Int)) = some (out ++ a.getD i y1q :: mrg ahead (b.drop k) (a.drop (i + 1))) := fun hi => by
    rw [ih (i + 1) k _ hi h2 (by simp; omega) (by omega)]; simp
   have takeB : k < b.length → forG B_u7f_l0 n (a, b, out ++ [b.getD k y1q], ((i : Nat) : Int), ((k + 1 : Nat) : Int)) = some (out ++ b.getD k y1q :: mrg ahead (b.drop (k + 1)) (a.drop i)) := fun hk => by
    rw [ih i (k + 1) _ h1 hk (by simp; omega) (by omega)]; simp
   simp only [forG]
   clear ih
   generalize forG B_u7f_l0 n = C at takeA takeB ⊢
   unfold B_u7f_l0
   simp (disch := omega) only [y9q, Int.toNat_natCast, specBefore]
   by_cases hi : i < a.length
   ·have ea : a.drop i = a.getD i y1q :: a.drop (i + 1) := by rw [y33q hi, List.getElem_cons_drop]
    rw [y2q (show (i : Int) < a.length by omega)]
    by_cases hk : k < b.length
    ·have eb : b.drop k = b.getD k y1q :: b.drop (k + 1) := by rw [y33q hk, List.getElem_cons_drop]
     rw [y11q (by omega), y2q (by omega), y2q (by omega), y2q (by omega), y2q (by omega), y2q (by omega)]
     rw [y127q rfl, ea, eb, y31q]
     cases hv : ahead (a.getD i y1q) (b.getD k y1q) with
     | true =>
      rw [brT, y2q (by omega), y2q (by omega), y2q (by simp; unfold capN; omega), takeA hi]; simp [eb]
     | false =>
      rw [brF, y2q (by omega), y2q (by omega), y2q (by simp; unfold capN; omega), takeB hk]; simp [ea]
    ·have hk' : k = b.length := by omega
     rw [y2q (by omega), y2q (by omega), y2q (by omega), y2q (by simp; unfold capN; omega), takeA hi, ea, hk', List.drop_length, nil_mrg, nil_mrg]
   ·have hi' : i = a.length := by omega
    rw [y11q (show ¬ (i : Int) < a.length by omega)]
    by_cases hk : k < b.length
    ·have eb : b.drop k = b.getD k y1q :: b.drop (k + 1) := by rw [y33q hk, List.getElem_cons_drop]
     rw [y2q (show (k : Int) < b.length by omega), y11q (by omega), y11q (by omega), y2q (by omega), y2q (by omega), y2q (by simp; unfold capN; omega), takeB hk, eb, hi', List.drop_length, y123q, y123q]
    ·have hk' : k = b.length := by omega
     rw [y11q (by omega), hi', hk', List.drop_length, List.drop_length, y123q]; simp
 unfold F_u7f F_u7f_l0
 have := key (a.length + b.length + 1) 0 0 [] (Nat.zero_le _) (Nat.zero_le _) rfl (by omega)
 have e : forG B_u7f_l0 (a.length + b.length + 1) (a, b, [], 0, 0) = some (mrg ahead b a) := by simpa using this
 rw [e]; rfl
def joins : List y0q → List DRun → List y0q
 | acc, [] => acc
 | acc, r :: rs => joins (mrg ahead r.1 acc) rs
def y73q (s : y3q) : List y0q := joins s.1 s.2.1
end Go.Ev.T1
