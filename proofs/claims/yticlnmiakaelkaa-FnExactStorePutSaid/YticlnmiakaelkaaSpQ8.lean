/- A version put, both ways. -/
import Derived.Test.YticlnmiakaelkaaSpQ7
set_option linter.unusedSimpArgs false
set_option linter.unusedVariables false
namespace Go.Ev.T1
open Go Go.Proofs
theorem putBoth (l : List DVersion) (b : DVersion) (h : Strict l) (hb : ∀ v ∈ l, ¬ Tie v b) : mrg ahead [b] l = stab ahead (l ++ [b]) := by
  have hp : (l ++ [b]).Pairwise fun a b => ¬ Tie a b := List.pairwise_append.2 ⟨(strict_iff (strict_srt h)).1 h, List.pairwise_singleton _ _, fun v hv w hw => by
    rw [List.mem_singleton.1 hw]; exact hb v hv⟩
  have p1 : (mrg ahead [b] l).Perm (l ++ [b]) := (mrg_perm [b] l).trans List.perm_append_comm
  have p2 := stab_perm (lt := ahead) (l ++ [b])
  have s1 : Strict (mrg ahead [b] l) := (strict_iff (mrg_srt ahead_weak (List.pairwise_singleton _ _) (strict_srt h))).2 ((p1.pairwise_iff fun {a b} => tie_symm).2 hp)
  have s2 : Strict (stab ahead (l ++ [b])) := (strict_iff (stab_srt ahead_weak _)).2 ((p2.pairwise_iff fun {a b} => tie_symm).2 hp)
  exact List.Perm.eq_of_pairwise (fun a b _ _ h1 h2 => absurd h2 fun h2 => by
    have := ahead_weak.asym _ _ (ahead_iff.2 h1); rw [ahead_iff.2 h2] at this; cases this) s1 s2 (p1.trans p2.symm)
def Free (l : List DVersion) (b : DVersion) : Prop := ∀ j, j < l.length → ¬ Tie (l.getD j ZVersion) b
theorem specHasL (l : List DVersion) (b : DVersion) (hl : l.length ≤ 1048576) : Ans (F_spec_l03Has_l0 b.1 b.2.1 l 0) (some (.inl ())) (some (.inr true)) (Free l b) := by
  unfold F_spec_l03Has_l0
  refine ans_loop (fun j => (b.1, b.2.1, l, ((j : Nat) : Int))) _ _ (fun j C hj hb => ?_) (fun C _ => ?_) (by omega)
  · unfold B_spec_l03Has_l0
    simp (disch := omega) only [wrap_succ, Int.toNat_natCast, eqI_dec, andB_true, andB_dec, beq_dec]
    refine ans_iff (ans_chk (by omega) (ans_chk (by omega) (ans_chk (by omega) (ans_br (fun _ => ans_chk (by omega) (ans_chk (by omega) (ans_br_no fun _ => ans_yes))) fun _ => ans_yes)))) ?_
    rw [tie_iff]
    simp only [and_true, not_and]
    grind
  · unfold B_spec_l03Has_l0
    exact br_neg (Int.lt_irrefl _) _ _
theorem implHasL (s : DStore) (b : DVersion) (z : DStore) (l : List DVersion) (hl : l.length ≤ 1048576) : Ans (F_impl_StorePut_l0 s b z l l (l.length : Int) 0) (some (.inl (s, b, z, l))) (some (.inr (([], [], (0, 0, ()), ()), 8))) (Free l b) := by
  unfold F_impl_StorePut_l0
  refine ans_loop (fun j => (s, b, z, l, l, ((l.length : Nat) : Int), ((j : Nat) : Int))) _ _ (fun j C hj hb => ?_) (fun C _ => ?_) (by omega)
  · unfold B_impl_StorePut_l0
    simp (disch := omega) only [wrap_succ, Int.toNat_natCast, eqI_dec, andB_true, andB_dec, beq_dec]
    refine ans_iff (ans_chk (by omega) (ans_chk (by omega) (ans_chk (by omega) (ans_br (fun _ => ans_br_no fun _ => ans_yes) fun _ => ans_yes)))) ?_
    rw [tie_iff]
    simp only [and_true, not_and]
    grind
  · unfold B_impl_StorePut_l0
    exact br_neg (Int.lt_irrefl _) _ _
theorem take_snoc {α : Type} {l : List α} {i : Nat} {z : α} (hi : i < l.length) : l.take i ++ [l.getD i z] = l.take (i + 1) := by
  rw [List.take_succ_eq_append_getElem hi, getD_lt hi]
theorem specCopy (s : DStore) (h0 : s.1.length ≤ 1048576) (h1 : s.2.1.length ≤ 1048576) (h2 : ∀ r ∈ s.2.1, r.1.length ≤ 1048576) : F_spec_l03Copy s = some s := by
  have key : F_spec_l03Copy_l0 s ([], [], (0, 0, ()), ()) ([] ++ s.1, [], s.2.2.1, ()) 0 = some (([], [], (0, 0, ()), ()), s) := by
    unfold F_spec_l03Copy_l0
    have := loop_run (B := B_spec_l03Copy_l0) (fun i => (s, ([], [], (0, 0, ()), ()), ([] ++ s.1, s.2.1.take i, s.2.2.1, ()), ((i : Nat) : Int))) s.2.1.length (some (([], [], (0, 0, ()), ()), s)) (fun i C hi => ?_) (fun C => ?_) (((s.2.1.length : Nat) : Int).toNat + 1) 0 (Nat.zero_le _) (by simp)
    · simpa using this
    · unfold B_spec_l03Copy_l0
      have hr := h2 (s.2.1.getD i ZRun) (mem_getD hi)
      simp (disch := omega) only [wrap_succ, Int.toNat_natCast]
      rw [br_pos (by omega), br_pos (by omega), br_pos (by omega), br_pos (by unfold capN; omega), br_pos (by omega), br_pos (by omega), br_pos (by simp only [List.length_take, List.length_cons, List.length_nil]; unfold capN; omega)]
      rw [← take_snoc (z := ZRun) hi]
      rfl
    · unfold B_spec_l03Copy_l0
      rw [br_neg (by simp)]
      simp
  unfold F_spec_l03Copy
  rw [br_pos (by unfold capN; omega), key]
  rfl
theorem implCopied (s : DStore) (h0 : s.1.length ≤ 1048576) (h1 : s.2.1.length ≤ 1048576) (h2 : ∀ r ∈ s.2.1, r.1.length ≤ 1048576) : F_impl_copied s = some s := by
  have key : F_impl_copied_l0 ([], [], (0, 0, ()), ()) (s.1, [], s.2.2.1, ()) s.2.1 ((s.2.1.length : Nat) : Int) 0 = some (([], [], (0, 0, ()), ()), s) := by
    unfold F_impl_copied_l0
    have := loop_run (B := B_impl_copied_l0) (fun i => (([], [], (0, 0, ()), ()), (s.1, s.2.1.take i, s.2.2.1, ()), s.2.1, ((s.2.1.length : Nat) : Int), ((i : Nat) : Int))) s.2.1.length (some (([], [], (0, 0, ()), ()), s)) (fun i C hi => ?_) (fun C => ?_) (((s.2.1.length : Nat) : Int).toNat + 1) 0 (Nat.zero_le _) (by simp)
    · simpa using this
    · unfold B_impl_copied_l0
      have hr := h2 (s.2.1.getD i ZRun) (mem_getD hi)
      simp (disch := omega) only [wrap_succ, Int.toNat_natCast]
      rw [br_pos (by omega), br_pos (by omega), br_pos (by omega), br_pos (by unfold capN; omega), br_pos (by simp only [List.length_take, List.length_cons, List.length_nil]; unfold capN; omega)]
      rw [← take_snoc (z := ZRun) hi]
    · unfold B_impl_copied_l0
      rw [br_neg (by simp)]
      simp
  unfold F_impl_copied
  rw [br_pos (by unfold capN; omega), key]
  rfl
theorem srtOk2 (xs : List DVersion) : SrtOk ZVersion (fun ys i j => bnd (F_impl_sortedVers_1 i j ys) fun y => some y) xs ahead := by
  refine ⟨ahead_weak, fun ys hy _ i j hi hj => ?_⟩
  show bnd (F_impl_sortedVers_1 i j ys) _ = _
  unfold F_impl_sortedVers_1
  rw [br_pos (by omega), br_pos (by omega), br_pos (by omega), br_pos (by omega), implBefore]
  simp only [Int.toNat_natCast]
  rfl
theorem implSorted (l : List DVersion) (h : l.length ≤ 1048576 + 1) : F_impl_sortedVers l = some (stab ahead l) := by
  unfold F_impl_sortedVers
  rw [br_pos (by unfold capN; omega), srt_eq (srtOk2 _)]
  rfl
theorem put_same (s : DStore) (hs : Sm_Store 1048576 s) (b : DVersion) (hb : Sm_Version 1048576 b) : ∃ r, F_spec_StorePut s b = some r ∧ F_impl_StorePut s b = some r ∧ Sm_Store 1048576 r.1 := by
  have hz : Sm_Store 1048576 ([], [], (0, 0, ()), ()) := ⟨⟨Nat.zero_le _, fun y hy => by cases hy⟩, ⟨Nat.zero_le _, fun y hy => by cases hy⟩, by unfold Sm_Time Rng; decide⟩
  unfold F_spec_StorePut F_impl_StorePut
  by_cases hok : OKP s
  case neg => rw [(specOK s hs).2 hok, (implOK s hs).2 hok]; exact ⟨_, rfl, rfl, hz⟩
  rw [(specOK s hs).1 hok, (implOK s hs).1 hok]
  show ∃ r, bnd _ _ = some r ∧ bnd _ _ = some r ∧ _
  by_cases hv : VerP b
  case neg => rw [(specVer b).2 hv, (implVer b).2 hv]; exact ⟨_, rfl, rfl, hz⟩
  rw [(specVer b).1 hv, (implVer b).1 hv]
  show ∃ r, bnd _ _ = some r ∧ bnd _ _ = some r ∧ _
  rw [specTime, implTime]
  show ∃ r, br _ _ _ = some r ∧ br _ _ _ = some r ∧ _
  by_cases ht : tcmp b.2.1 s.2.2.1 ≤ 0
  · rw [br_pos ht, br_pos ht]; exact ⟨_, rfl, rfl, hz⟩
  rw [br_neg ht, br_neg ht]
  obtain ⟨o1, o2, o3, o4, o5, o6⟩ := hok
  obtain ⟨t1, t2⟩ := okp_srt o4 o5
  have hall : specAllL s = stab ahead (rawAll s) := both_all s ((both_strict s t1 t2).2 o6) o6
  have hlen : (stab ahead (rawAll s)).length = (rawAll s).length := stab_length _
  have hS := specAll s (by omega) (by omega)
  rw [hall] at hS
  rw [implAll s (by omega) (by omega)]
  unfold F_spec_l03Has F_spec_l03Count F_spec_l03Put
  rw [hS]
  simp only [bnd_some']
  by_cases hf : Free (stab ahead (rawAll s)) b
  case neg =>
    rw [(specHasL _ b (by omega)).2 hf, (implHasL s b _ _ (by omega)).2 hf]; exact ⟨_, rfl, rfl, hz⟩
  rw [(specHasL _ b (by omega)).1 hf, (implHasL s b _ _ (by omega)).1 hf]
  show ∃ r, br _ _ _ = some r ∧ br _ _ _ = some r ∧ _
  by_cases hc : ((stab ahead (rawAll s)).length : Int) ≥ 4000
  · rw [br_pos hc, br_pos hc]; exact ⟨_, rfl, rfl, hz⟩
  rw [br_neg hc, br_neg hc]
  have h0 : s.1.length ≤ (rawAll s).length := by simp [rawAll]
  have hr : ∀ r ∈ s.2.1, r.1.length ≤ 1048576 := fun r hr => (hs.2.1.2 r hr).1.1
  rw [specCopy s hs.1.1 hs.2.1.1 hr, implCopied s hs.1.1 hs.2.1.1 hr]
  simp only [bnd_some']
  rw [specJoin s.1 [b] (by simp only [List.length_cons, List.length_nil]; omega), br_pos (by simp only [List.length_cons, List.length_nil]; unfold capN; omega), implSorted _ (by simp only [List.length_append, List.length_cons, List.length_nil]; omega)]
  rw [putBoth s.1 b (listP_strict o4) fun v hv => by
    have : v ∈ stab ahead (rawAll s) := (stab_perm _).mem_iff.2 (List.mem_append.2 (.inl hv))
    obtain ⟨j, hj, e⟩ := List.getElem_of_mem this
    have := hf j hj
    rw [getD_lt hj, e] at this; exact this]
  refine ⟨_, rfl, rfl, ⟨⟨?_, fun y hy => ?_⟩, hs.2.1, hs.2.2⟩⟩
  · show (stab ahead (s.1 ++ [b])).length ≤ _
    rw [stab_length]; simp only [List.length_append, List.length_cons, List.length_nil]; omega
  · have hy : y ∈ stab ahead (s.1 ++ [b]) := hy
    rcases List.mem_append.1 ((stab_perm _).mem_iff.1 hy) with h | h
    · exact hs.1.2 y h
    · rw [List.mem_singleton.1 h]; exact hb
end Go.Ev.T1
