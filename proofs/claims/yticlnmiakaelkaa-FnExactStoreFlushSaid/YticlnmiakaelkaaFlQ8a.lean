/- Copies, the sort of a list, two lists joined. -/
import Derived.Test.YticlnmiakaelkaaFlQ7
set_option linter.unusedSimpArgs false
set_option linter.unusedVariables false
namespace Go.Ev.T1
open Go Go.Proofs
theorem take_snoc {α : Type} {l : List α} {i : Nat} {z : α} (hi : i < l.length) : l.take i ++ [l.getD i z] = l.take (i + 1) := by
  rw [List.take_succ_eq_append_getElem hi, getD_lt hi]
theorem specCopy (s : DStore) (h0 : s.1.length ≤ 1048576) (h1 : s.2.1.length ≤ 1048576) (h2 : ∀ r ∈ s.2.1, r.1.length ≤ 1048576) : F_spec_l03Copy s = some s := by
  have key : F_spec_l03Copy_l0 s ([], [], (0, 0, ()), ()) ([] ++ s.1, [], s.2.2.1, ()) 0 = some (([], [], (0, 0, ()), ()), s) := by
    unfold F_spec_l03Copy_l0
    have := loop_run (B := B_spec_l03Copy_l0) (fun i => (s, ([], [], (0, 0, ()), ()), ([] ++ s.1, s.2.1.take i, s.2.2.1, ()), ((i : Nat) : Int))) s.2.1.length (some (([], [], (0, 0, ()), ()), s)) (fun i C hi => ?_) (fun C => ?_) (((s.2.1.length : Nat) : Int).toNat + 1) 0 (Nat.zero_le _) (by simp)
    · simpa using this
    · unfold B_spec_l03Copy_l0
      have hr := h2 (s.2.1.getD i ZRun) (mem_getD hi)
      simp (disch := omega) only [wrap_succ, Int.toNat_natCast]
      rw [br_pos (by omega), br_pos (by omega), br_pos (by omega), br_pos (by unfold capN; omega), br_pos (by omega), br_pos (by omega), br_pos (by simp only [List.length_take, List.length_cons, List.length_nil]; unfold capN; omega)]
      rw [← take_snoc (z := ZRun) hi]
      rfl
    · unfold B_spec_l03Copy_l0
      rw [br_neg (by simp)]
      simp
  unfold F_spec_l03Copy
  rw [br_pos (by unfold capN; omega), key]
  rfl
theorem implCopied (s : DStore) (h0 : s.1.length ≤ 1048576) (h1 : s.2.1.length ≤ 1048576) (h2 : ∀ r ∈ s.2.1, r.1.length ≤ 1048576) : F_impl_copied s = some s := by
  have key : F_impl_copied_l0 ([], [], (0, 0, ()), ()) (s.1, [], s.2.2.1, ()) s.2.1 ((s.2.1.length : Nat) : Int) 0 = some (([], [], (0, 0, ()), ()), s) := by
    unfold F_impl_copied_l0
    have := loop_run (B := B_impl_copied_l0) (fun i => (([], [], (0, 0, ()), ()), (s.1, s.2.1.take i, s.2.2.1, ()), s.2.1, ((s.2.1.length : Nat) : Int), ((i : Nat) : Int))) s.2.1.length (some (([], [], (0, 0, ()), ()), s)) (fun i C hi => ?_) (fun C => ?_) (((s.2.1.length : Nat) : Int).toNat + 1) 0 (Nat.zero_le _) (by simp)
    · simpa using this
    · unfold B_impl_copied_l0
      have hr := h2 (s.2.1.getD i ZRun) (mem_getD hi)
      simp (disch := omega) only [wrap_succ, Int.toNat_natCast]
      rw [br_pos (by omega), br_pos (by omega), br_pos (by omega), br_pos (by unfold capN; omega), br_pos (by simp only [List.length_take, List.length_cons, List.length_nil]; unfold capN; omega)]
      rw [← take_snoc (z := ZRun) hi]
    · unfold B_impl_copied_l0
      rw [br_neg (by simp)]
      simp
  unfold F_impl_copied
  rw [br_pos (by unfold capN; omega), key]
  rfl
theorem srtOk2 (xs : List DVersion) : SrtOk ZVersion (fun ys i j => bnd (F_impl_sortedVers_1 i j ys) fun y => some y) xs ahead := by
  refine ⟨ahead_weak, fun ys hy _ i j hi hj => ?_⟩
  show bnd (F_impl_sortedVers_1 i j ys) _ = _
  unfold F_impl_sortedVers_1
  rw [br_pos (by omega), br_pos (by omega), br_pos (by omega), br_pos (by omega), implBefore]
  simp only [Int.toNat_natCast]
  rfl
theorem implSorted (l : List DVersion) (h : l.length ≤ 1048576 + 1) : F_impl_sortedVers l = some (stab ahead l) := by
  unfold F_impl_sortedVers
  rw [br_pos (by unfold capN; omega), srt_eq (srtOk2 _)]
  rfl
theorem joinBoth (a b : List DVersion) (ha : Strict a) (hb : Strict b) (h : (a ++ b).Pairwise fun a b => ¬ Tie a b) : mrg ahead b a = stab ahead (a ++ b) := by
  have p1 : (mrg ahead b a).Perm (a ++ b) := (mrg_perm b a).trans List.perm_append_comm
  have p2 := stab_perm (lt := ahead) (a ++ b)
  have s1 : Strict (mrg ahead b a) := (strict_iff (mrg_srt ahead_weak (strict_srt hb) (strict_srt ha))).2 ((p1.pairwise_iff fun {a b} => tie_symm).2 h)
  have s2 : Strict (stab ahead (a ++ b)) := (strict_iff (stab_srt ahead_weak _)).2 ((p2.pairwise_iff fun {a b} => tie_symm).2 h)
  exact List.Perm.eq_of_pairwise (fun a b _ _ h1 h2 => absurd h2 fun h2 => by
    have := ahead_weak.asym _ _ (ahead_iff.2 h1); rw [ahead_iff.2 h2] at this; cases this) s1 s2 (p1.trans p2.symm)
theorem mixEl_self : ∀ (t : Ty) (x : t.den), mixEl t x x = x
  | .int _, _ | .bool, _ | .str, _ | .sl _, _ | .unit, _ | .any, _ | .osl _ _, _ => rfl
  | .pair a b, x => by
    show (mixEl a x.1 x.1, mixEl b x.2 x.2) = x
    rw [mixEl_self a, mixEl_self b]
theorem mixL_take (t : Ty) : ∀ (l : List t.den) (i : Nat), mixL t (l.take i) l = l.take i
  | [], i => by simp [mixL]
  | x :: l, 0 => by simp [mixL]
  | x :: l, i + 1 => by
    have := mixL_take t l i
    unfold mixL at this ⊢
    rw [List.take_succ_cons, List.zipWith_cons_cons, mixEl_self, this]
theorem filt_len (ks : List (List UInt8)) : (filt ks).length ≤ 1048576 := by
  unfold filt rowL
  rw [List.length_map, fold_len, List.length_replicate]
  unfold filtN
  omega
theorem runs_split {l : List DRun} {i : Nat} (h : i + 1 < l.length) : l = l.take i ++ l.getD i ZRun :: l.getD (i + 1) ZRun :: l.drop (i + 2) := by
  rw [getD_lt h, getD_lt (show i < l.length by omega), List.getElem_cons_drop, List.getElem_cons_drop, List.take_append_drop]
theorem runs_apart {s : DStore} (h : Strict (stab ahead (rawAll s))) {i : Nat} (hi : i + 1 < s.2.1.length) : ((s.2.1.getD i ZRun).1 ++ (s.2.1.getD (i + 1) ZRun).1).Pairwise fun a b => ¬ Tie a b := by
  have h1 : (rawAll s).Pairwise fun a b => ¬ Tie a b := ((stab_perm (rawAll s)).pairwise_iff fun {a b} => tie_symm).1 ((strict_iff (stab_srt ahead_weak _)).1 h)
  unfold rawAll at h1
  have h2 := (List.pairwise_append.1 h1).2.1
  rw [runs_split hi] at h2
  rw [List.flatMap_append] at h2
  have h3 := (List.pairwise_append.1 h2).2.1
  rw [List.flatMap_cons, List.flatMap_cons, ← List.append_assoc] at h3
  exact (List.pairwise_append.1 h3).1
end Go.Ev.T1
