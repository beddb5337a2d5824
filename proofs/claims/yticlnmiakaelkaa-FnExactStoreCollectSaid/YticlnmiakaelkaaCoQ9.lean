/- The law of StoreCollect. -/
import Derived.Test.YticlnmiakaelkaaCoQ9a
import Derived.Test.YticlnmiakaelkaaCoMk
set_option linter.unusedSimpArgs false
set_option linter.unusedVariables false
namespace Go.Ev.T1
open Go Go.Proofs
theorem goes_same (low : DTime) (all : List DVersion) (hS : Strict all) (hne : ∀ v ∈ all, v.1 ≠ []) (v : DVersion) (hv : v ∈ all) : (!(mgetD T199 T4 (kOf v) (goneM low all))) = decide (¬ v ∈ goesL low all) := by
  have h := gone_iff low all hne (kOf v)
  have h2 : (∃ g ∈ goesL low all, kOf g = kOf v) ↔ v ∈ goesL low all := by
    constructor
    · rintro ⟨g, hg, hk⟩
      have e1 : g.1 = v.1 := congrArg (fun k : Dka => k.1) hk
      have e2 : g.2.1 = v.2.1 := congrArg (fun k : Dka => k.2.1) hk
      have := strict_tie hS ((goesL_sub low all).subset hg) hv (tie_iff.2 ⟨e1, by rw [e2], by rw [e2]⟩)
      rwa [← this]
    · intro h; exact ⟨v, h, rfl⟩
  rw [h2] at h
  by_cases hm : v ∈ goesL low all
  · rw [h.2 hm]; simp [hm]
  · cases hg : mgetD T199 T4 (kOf v) (goneM low all) with
    | true => exact absurd (h.1 hg) hm
    | false => simp [hm]
theorem filter_same {P Q : DVersion → Bool} {l : List DVersion} (h : ∀ v ∈ l, P v = Q v) : l.filter P = l.filter Q := List.filter_congr h
theorem keepR_same {P Q : DVersion → Bool} : ∀ {l : List DRun}, (∀ r ∈ l, ∀ v ∈ r.1, P v = Q v) → l.flatMap (keepR P) = l.flatMap (keepR Q)
  | [], _ => rfl
  | r :: l, h => by
    have h1 : r.1.filter P = r.1.filter Q := filter_same fun v hv => h r (by simp) v hv
    have h2 : keepR P r = keepR Q r := by unfold keepR; rw [h1]
    simp only [List.flatMap_cons]
    rw [h2, keepR_same fun r hr v hv => h r (by simp [hr]) v hv]
theorem collect_same (s : DStore) (hs : Sm_Store 1048576 s) (b : DTime) (hb : Sm_Time 1048576 b) : ∃ r, F_spec_StoreCollect s b = some r ∧ F_impl_StoreCollect s b = some r ∧ Sm_Store 1048576 r.1 := by
  have hz : Sm_Store 1048576 ([], [], (0, 0, ()), ()) := ⟨⟨Nat.zero_le _, fun y hy => by cases hy⟩, ⟨Nat.zero_le _, fun y hy => by cases hy⟩, by unfold Sm_Time Rng; decide⟩
  unfold F_spec_StoreCollect F_impl_StoreCollect
  by_cases hok : OKP s
  case neg => rw [(specOK s hs).2 hok, (implOK s hs).2 hok]; exact ⟨_, rfl, rfl, hz⟩
  rw [(specOK s hs).1 hok, (implOK s hs).1 hok]
  show ∃ r, bnd _ _ = some r ∧ bnd _ _ = some r ∧ _
  by_cases ht : TimeP b
  case neg => rw [(specTimeOK b).2 ht, (implTimeOK b).2 ht]; exact ⟨_, rfl, rfl, hz⟩
  rw [(specTimeOK b).1 ht, (implTimeOK b).1 ht, specTime, implTime]
  show ∃ r, br _ _ _ = some r ∧ br _ _ _ = some r ∧ _
  by_cases h3 : tcmp b s.2.2.1 < 0
  · rw [br_pos h3, br_pos h3]; exact ⟨_, rfl, rfl, hz⟩
  rw [br_neg h3, br_neg h3]
  obtain ⟨o1, o2, o3, o4, o5, o6⟩ := hok
  obtain ⟨t1, t2⟩ := okp_srt o4 o5
  have hall : specAllL s = stab ahead (rawAll s) := both_all s ((both_strict s t1 t2).2 o6) o6
  have hlen : (stab ahead (rawAll s)).length = (rawAll s).length := stab_length _
  have hS := specAll s (by omega) (by omega)
  rw [hall] at hS
  have hG : (goesL b (stab ahead (rawAll s))).length ≤ 1048576 := by
    have := (goesL_sub b (stab ahead (rawAll s))).length_le; omega
  have sG : Strict (goesL b (stab ahead (rawAll s))) := o6.sublist (goesL_sub b _)
  have h0 : s.1.length ≤ 1048576 := hs.1.1
  have hmem : ∀ v ∈ rawAll s, VerP v := by
    intro v hv
    rcases List.mem_append.1 hv with hv | hv
    · exact (listP_iff.1 o4).1 v hv
    · obtain ⟨r, hr, hv⟩ := List.mem_flatMap.1 hv
      obtain ⟨i, hi, rfl⟩ := List.mem_iff_getElem.1 hr
      have := (o5 i hi).2.1
      rw [getD_lt hi] at this
      exact (listP_iff.1 this).1 v hv
  have hne : ∀ v ∈ stab ahead (rawAll s), v.1 ≠ [] := fun v hv e => by
    have := (hmem v ((stab_perm _).mem_iff.1 hv)).1
    rw [e] at this; simp at this
  have hsame : ∀ v ∈ rawAll s, (!(mgetD T199 T4 (kOf v) (goneM b (stab ahead (rawAll s))))) = decide (¬ v ∈ goesL b (stab ahead (rawAll s))) := fun v hv => goes_same b _ o6 hne v ((stab_perm _).mem_iff.2 hv)
  rw [implAll s (by omega) (by omega), bnd_some', implGone s b _ _ (by omega), bnd_some', implKeep _ _ h0, bnd_some', implRunsKept s hs o2, bnd_some']
  rw [hS, bnd_some', specGoes _ b (by omega), bnd_some', specKept _ _ hG h0 sG (listP_strict o4), bnd_some', specRunsKept s hs o2 _ _ hG sG (fun i hi => listP_strict (o5 i hi).2.1), bnd_some']
  have e1 : (s.1.filter fun v => !(mgetD T199 T4 (kOf v) (goneM b (stab ahead (rawAll s))))) = s.1.filter fun v => decide (¬ v ∈ goesL b (stab ahead (rawAll s))) := filter_same fun v hv => hsame v (List.mem_append_left _ hv)
  have e2 : s.2.1.flatMap (keepR fun v => !(mgetD T199 T4 (kOf v) (goneM b (stab ahead (rawAll s))))) = s.2.1.flatMap (keepR fun v => decide (¬ v ∈ goesL b (stab ahead (rawAll s)))) := keepR_same fun r hr v hv => hsame v (List.mem_append_right _ (List.mem_flatMap.2 ⟨r, hr, hv⟩))
  rw [e1, e2]
  refine ⟨_, rfl, rfl, ?_, ?_, ?_⟩
  · exact sml_filter hs.1 _
  · refine ⟨Nat.le_trans (keepR_len _ _) hs.2.1.1, fun y hy => ?_⟩
    obtain ⟨r, hr, hy⟩ := List.mem_flatMap.1 hy
    unfold keepR at hy
    split at hy
    · rw [List.mem_singleton.1 hy]
      exact ⟨sml_filter (hs.2.1.2 r hr).1 _, filt_len _⟩
    · cases hy
  · exact hb
theorem law_StoreCollect (a : DLStore) (ha : Sm_LStore maxLen a) (b : DTime) (hb : Sm_Time maxLen b) : F_laws_FnExactStoreCollect a b = some true := by
  unfold F_laws_FnExactStoreCollect
  obtain ⟨r, hr, h⟩ := sz_Store a 1048576 (by decide) (by decide) ha
  rw [hr, bnd_some']
  rcases h with rfl | ⟨r0, r1, hs⟩
  · exact br_pos (by decide) _ _
  rw [br_neg (by omega)]
  have hs' : Sm_Store 1048576 a := hs
  have hb' : Sm_Time 1048576 b := hb
  obtain ⟨g, h1, h2, h3⟩ := collect_same a hs' b hb'
  obtain ⟨k1, x1, y1, e1, f1, g1, g1'⟩ := mkx_Store a 1 hs' (by decide) (by decide)
  obtain ⟨k2, x2, y2, e2, f2, g2, g2'⟩ := mkx_Store g.1 1 h3 (by decide) (by decide)
  have n1 : decide (k1 < 0) = false := decide_eq_false (by omega)
  have n2 : decide (k2 < 0) = false := decide_eq_false (by omega)
  simp only [to_Store a hs, to_Time b hb', bnd_some', h1, h2, eq_Store g.1 h3, eq_Store (a : DStore) hs', e1, e2, f2, n1, n2, beq_self_eq_true, bne_self_eq_false, Bool.not_true, br_false]
end Go.Ev.T1
