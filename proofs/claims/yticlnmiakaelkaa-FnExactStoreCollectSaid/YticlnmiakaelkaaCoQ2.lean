/- All versions of a store, in order: the sort, the joins. -/
import Derived.Test.YticlnmiakaelkaaCoQ1
import Derived.Test.YticlnmiakaelkaaCoEvH
set_option linter.unusedSimpArgs false
set_option linter.unusedVariables false
namespace Go.Ev.T1
open Go Go.Proofs
theorem brT {X : Type} (x y : Option X) : br true x y = x := rfl
theorem brF {X : Type} (x y : Option X) : br false x y = y := rfl
theorem getD_lt {α : Type} {l : List α} {i : Nat} {z : α} (h : i < l.length) : l.getD i z = l[i] := by simp [List.getD_eq_getElem?_getD, h]
theorem srtOk (xs : List DVersion) : SrtOk ZVersion (fun ys i j => bnd (F_impl_allOf_1 i j ys) fun y => some y) xs ahead := by
  refine ⟨ahead_weak, fun ys hy _ i j hi hj => ?_⟩
  show bnd (F_impl_allOf_1 i j ys) _ = _
  unfold F_impl_allOf_1
  rw [br_pos (by omega), br_pos (by omega), br_pos (by omega), br_pos (by omega), implBefore]
  simp only [Int.toNat_natCast]
  rfl
/-- all versions, as they come -/
def rawAll (s : DStore) : List DVersion := s.1 ++ s.2.1.flatMap fun r => r.1
theorem implAll (s : DStore) (h1 : s.2.1.length ≤ 1048576) (h2 : (rawAll s).length ≤ 1048576) : F_impl_allOf s = some (stab ahead (rawAll s)) := by
  have hr : (rawAll s).length = s.1.length + (s.2.1.flatMap fun r => r.1).length := by simp [rawAll]
  have key : F_impl_allOf_l0 s.1 s.2.1 ((s.2.1.length : Nat) : Int) 0 = some (rawAll s) := by
    unfold F_impl_allOf_l0
    have := loop_run (B := B_impl_allOf_l0) (fun i => (s.1 ++ (s.2.1.take i).flatMap (fun r => r.1), s.2.1, ((s.2.1.length : Nat) : Int), ((i : Nat) : Int))) s.2.1.length (some (rawAll s)) (fun i C hi => ?_) (fun C => ?_) (((s.2.1.length : Nat) : Int).toNat + 1) 0 (Nat.zero_le _) (by simp)
    · simpa using this
    · unfold B_impl_allOf_l0
      have hm : ((s.2.1.take i).flatMap fun r => r.1).length + (s.2.1.getD i ZRun).1.length ≤ (s.2.1.flatMap fun r => r.1).length := by
        have : s.2.1 = s.2.1.take i ++ (s.2.1[i] :: s.2.1.drop (i + 1)) := by rw [List.getElem_cons_drop, List.take_append_drop]
        rw [getD_lt hi]
        conv => rhs; rw [this]
        rw [List.flatMap_append, List.flatMap_cons]
        simp only [List.length_append]; omega
      simp (disch := omega) only [wrap_succ, Int.toNat_natCast]
      rw [br_pos (by omega), br_pos (by omega), br_pos (by omega), br_pos (by simp only [List.length_append]; unfold capN; omega)]
      congr 2
      rw [List.take_succ_eq_append_getElem hi, List.flatMap_append, getD_lt hi]
      simp
    · unfold B_impl_allOf_l0
      rw [br_neg (by simp)]
      simp [rawAll]
  unfold F_impl_allOf
  rw [br_pos (by unfold capN; omega), key]
  show br _ _ _ = _
  rw [br_pos (by unfold capN; omega), srt_eq (srtOk _)]
  rfl
/-- the joining of two lists, b's first of equals -/
theorem specJoin (a b : List DVersion) (h : a.length + b.length ≤ 1048576) : F_spec_l03Join a b = some (mrg ahead b a) := by
  have key : ∀ n i k (out : List DVersion), i ≤ a.length → k ≤ b.length → out.length = i + k → a.length + b.length < n + i + k → forG B_spec_l03Join_l0 n (a, b, out, ((i : Nat) : Int), ((k : Nat) : Int)) = some (out ++ mrg ahead (b.drop k) (a.drop i)) := by
    intro n
    induction n with
    | zero => intro i k out h1 h2 h3 h4; omega
    | succ n ih =>
      intro i k out h1 h2 h3 h4
      have takeA : i < a.length → forG B_spec_l03Join_l0 n (a, b, out ++ [a.getD i ZVersion], ((i + 1 : Nat) : Int), ((k : Nat) : Int)) = some (out ++ a.getD i ZVersion :: mrg ahead (b.drop k) (a.drop (i + 1))) := fun hi => by
        rw [ih (i + 1) k _ hi h2 (by simp; omega) (by omega)]; simp
      have takeB : k < b.length → forG B_spec_l03Join_l0 n (a, b, out ++ [b.getD k ZVersion], ((i : Nat) : Int), ((k + 1 : Nat) : Int)) = some (out ++ b.getD k ZVersion :: mrg ahead (b.drop (k + 1)) (a.drop i)) := fun hk => by
        rw [ih i (k + 1) _ h1 hk (by simp; omega) (by omega)]; simp
      simp only [forG]
      clear ih
      generalize forG B_spec_l03Join_l0 n = C at takeA takeB ⊢
      unfold B_spec_l03Join_l0
      simp (disch := omega) only [wrap_succ, Int.toNat_natCast, specBefore]
      by_cases hi : i < a.length
      · have ea : a.drop i = a.getD i ZVersion :: a.drop (i + 1) := by rw [getD_lt hi, List.getElem_cons_drop]
        rw [br_pos (show (i : Int) < a.length by omega)]
        by_cases hk : k < b.length
        · have eb : b.drop k = b.getD k ZVersion :: b.drop (k + 1) := by rw [getD_lt hk, List.getElem_cons_drop]
          rw [br_neg (by omega), br_pos (by omega), br_pos (by omega), br_pos (by omega), br_pos (by omega), br_pos (by omega)]
          rw [bnd_eq rfl, ea, eb, mrg_cons]
          cases hv : ahead (a.getD i ZVersion) (b.getD k ZVersion) with
          | true =>
            rw [brT, br_pos (by omega), br_pos (by omega), br_pos (by simp; unfold capN; omega), takeA hi]; simp [eb]
          | false =>
            rw [brF, br_pos (by omega), br_pos (by omega), br_pos (by simp; unfold capN; omega), takeB hk]; simp [ea]
        · have hk' : k = b.length := by omega
          rw [br_pos (by omega), br_pos (by omega), br_pos (by omega), br_pos (by simp; unfold capN; omega), takeA hi, ea, hk', List.drop_length, nil_mrg, nil_mrg]
      · have hi' : i = a.length := by omega
        rw [br_neg (show ¬ (i : Int) < a.length by omega)]
        by_cases hk : k < b.length
        · have eb : b.drop k = b.getD k ZVersion :: b.drop (k + 1) := by rw [getD_lt hk, List.getElem_cons_drop]
          rw [br_pos (show (k : Int) < b.length by omega), br_neg (by omega), br_neg (by omega), br_pos (by omega), br_pos (by omega), br_pos (by simp; unfold capN; omega), takeB hk, eb, hi', List.drop_length, mrg_nil, mrg_nil]
        · have hk' : k = b.length := by omega
          rw [br_neg (by omega), hi', hk', List.drop_length, List.drop_length, mrg_nil]; simp
  unfold F_spec_l03Join F_spec_l03Join_l0
  have := key (a.length + b.length + 1) 0 0 [] (Nat.zero_le _) (Nat.zero_le _) rfl (by omega)
  have e : forG B_spec_l03Join_l0 (a.length + b.length + 1) (a, b, [], 0, 0) = some (mrg ahead b a) := by simpa using this
  rw [e]; rfl
/-- the runs joined, one behind the other -/
def joins : List DVersion → List DRun → List DVersion
  | acc, [] => acc
  | acc, r :: rs => joins (mrg ahead r.1 acc) rs
def specAllL (s : DStore) : List DVersion := joins s.1 s.2.1
end Go.Ev.T1
