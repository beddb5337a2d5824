/- The law of StoreScan. -/
import Derived.Test.YticlnmiakaelkaaScQ8b
import Derived.Test.YticlnmiakaelkaaScMk
set_option linter.unusedSimpArgs false
set_option linter.unusedVariables false
namespace Go.Ev.T1
open Go Go.Proofs
theorem sm_raw {s : DStore} (hs : Sm_Store 1048576 s) {v : DVersion} (hv : v ∈ rawAll s) : Sm_Version 1048576 v := by
  rcases List.mem_append.1 hv with h | h
  · exact hs.1.2 v h
  · obtain ⟨r, hr, h⟩ := List.mem_flatMap.1 h
    exact (hs.2.1.2 r hr).1.2 v h
theorem scan_store (s : DStore) (hs : Sm_Store 1048576 s) (fr to : List UInt8) (at_ : DTime) (most : Int) : ∃ r, F_spec_StoreScan s fr to at_ most = some r ∧ F_impl_StoreScan s fr to at_ most = some r ∧ (r.1.length ≤ 1048576 ∧ ∀ y ∈ r.1, Sm_Version 1048576 y) := by
  have hz : ([] : List DVersion).length ≤ 1048576 ∧ ∀ y ∈ ([] : List DVersion), Sm_Version 1048576 y := ⟨Nat.zero_le _, fun y hy => by cases hy⟩
  unfold F_spec_StoreScan F_impl_StoreScan
  by_cases hok : OKP s
  case neg => rw [(specOK s hs).2 hok, (implOK s hs).2 hok]; exact ⟨_, rfl, rfl, hz⟩
  rw [(specOK s hs).1 hok, (implOK s hs).1 hok]
  show ∃ r, bnd _ _ = some r ∧ bnd _ _ = some r ∧ _
  by_cases ht : TimeP at_
  case neg => rw [(specTimeOK at_).2 ht, (implTimeOK at_).2 ht]; exact ⟨_, rfl, rfl, hz⟩
  rw [(specTimeOK at_).1 ht, (implTimeOK at_).1 ht]
  show ∃ r, br _ _ _ = some r ∧ br _ _ _ = some r ∧ _
  by_cases h1 : most < 0
  · rw [br_pos h1, br_pos h1]; exact ⟨_, rfl, rfl, hz⟩
  rw [br_neg h1, br_neg h1]
  by_cases h2 : most > 4000
  · rw [br_pos h2, br_pos h2]; exact ⟨_, rfl, rfl, hz⟩
  rw [br_neg h2, br_neg h2, specTime, implTime]
  show ∃ r, br _ _ _ = some r ∧ br _ _ _ = some r ∧ _
  by_cases h3 : tcmp at_ s.2.2.1 < 0
  · rw [br_pos h3, br_pos h3]; exact ⟨_, rfl, rfl, hz⟩
  rw [br_neg h3, br_neg h3]
  obtain ⟨o1, o2, o3, o4, o5, o6⟩ := hok
  obtain ⟨t1, t2⟩ := okp_srt o4 o5
  have hall : specAllL s = stab ahead (rawAll s) := both_all s ((both_strict s t1 t2).2 o6) o6
  have hlen : (stab ahead (rawAll s)).length = (rawAll s).length := stab_length _
  have hS := specAll s (by omega) (by omega)
  rw [hall] at hS
  rw [implAll s (by omega) (by omega), bnd_some', implScanned fr to at_ most _ (by omega), bnd_some']
  unfold F_spec_l03Scan F_spec_l03Live
  have hl : (liveL at_ (stab ahead (rawAll s))).length ≤ (rawAll s).length := by
    rw [← hlen]; exact live_fold_len at_ _
  rw [hS, bnd_some', specLiveL at_ _ (by omega), bnd_some', bnd_some', specScanL fr to most _ (by omega), scan_both fr to at_ most _ o6]
  refine ⟨_, rfl, rfl, ?_, ?_⟩
  · show (scanI fr to at_ most none [] (stab ahead (rawAll s))).length ≤ _
    rw [← scan_both fr to at_ most _ o6]
    have := sput_len fr to most (liveL at_ (stab ahead (rawAll s))) []
    simp only [List.length_nil] at this
    omega
  · intro y hy
    have hy : y ∈ scanI fr to at_ most none [] (stab ahead (rawAll s)) := hy
    rw [← scan_both fr to at_ most _ o6] at hy
    rcases sput_mem fr to most _ [] y hy with h | h
    · cases h
    · rw [liveL_eq] at h
      exact sm_raw hs ((stab_perm _).mem_iff.1 (live_mem at_ _ none y h))
theorem law_StoreScan (a : DLStore) (ha : Sm_LStore maxLen a) (b c : List UInt8) (d : DTime) (hd : Sm_Time maxLen d) (e : Int) : F_laws_FnExactStoreScan a b c d e = some true := by
  unfold F_laws_FnExactStoreScan
  by_cases hb : (b.length : Int) > 1048576
  · exact br_pos hb _ _
  rw [br_neg hb]
  by_cases hc : (c.length : Int) > 1048576
  · exact br_pos hc _ _
  rw [br_neg hc]
  obtain ⟨r, hr, h⟩ := sz_Store a 1048576 (by decide) (by decide) ha
  rw [hr, bnd_some']
  rcases h with rfl | ⟨r0, r1, hs⟩
  · exact br_pos (by decide) _ _
  rw [br_neg (by omega)]
  have hs' : Sm_Store 1048576 a := hs
  have hd' : Sm_Time 1048576 d := hd
  obtain ⟨g, h1, h2, h3⟩ := scan_store a hs' b c d e
  obtain ⟨k1, x1, y1, e1, g1, g1'⟩ := mkx_Store a 1 hs' (by decide) (by decide)
  obtain ⟨k2, x2, e2, f2, g2, g2'⟩ := mk_VersionS g.1 1 h3 (by decide) (by decide)
  have n1 : decide (k1 < 0) = false := decide_eq_false (by omega)
  have n2 : decide (k2 < 0) = false := decide_eq_false (by omega)
  simp only [to_Store a hs, to_Time d hd', bnd_some', h1, h2, eq_VersionS g.1 h3, eq_Store (a : DStore) hs', e1, e2, f2, n1, n2, beq_self_eq_true, bne_self_eq_false, Bool.not_true, br_false]
end Go.Ev.T1
