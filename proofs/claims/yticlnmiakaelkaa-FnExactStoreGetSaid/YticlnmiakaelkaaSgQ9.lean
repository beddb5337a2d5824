/- The law of StoreGet. -/
import Derived.Test.YticlnmiakaelkaaSgQ8
set_option linter.unusedSimpArgs false
set_option linter.unusedVariables false
namespace Go.Ev.T1
open Go Go.Proofs
theorem sm_raw {s : DStore} (hs : Sm_Store 1048576 s) {v : DVersion} (hv : v ∈ rawAll s) : Sm_Version 1048576 v := by
  rcases List.mem_append.1 hv with h | h
  · exact hs.1.2 v h
  · obtain ⟨r, hr, h⟩ := List.mem_flatMap.1 h
    exact (hs.2.1.2 r hr).1.2 v h
theorem sm_zv : Sm_Version 1048576 ZV := ⟨Nat.zero_le _, ⟨by unfold ZV Rng; decide, by unfold ZV Rng; decide⟩, Nat.zero_le _⟩
theorem law_StoreGet (a : DLStore) (ha : Sm_LStore maxLen a) (k : List UInt8) (t : DTime) (ht : Sm_Time maxLen t) : F_laws_FnExactStoreGet a k t = some true := by
  unfold F_laws_FnExactStoreGet
  by_cases hk : (k.length : Int) > 1048576
  · exact br_pos hk _ _
  rw [br_neg hk]
  obtain ⟨r, hr, h⟩ := sz_Store a 1048576 (by decide) (by decide) ha
  rw [hr, bnd_some']
  rcases h with rfl | ⟨r0, r1, hs⟩
  · exact br_pos (by decide) _ _
  rw [br_neg (by omega)]
  have hs' : Sm_Store 1048576 a := hs
  obtain ⟨g, h1, h2, h3⟩ := get_same a hs' k t
  have hg : Sm_Version 1048576 g.1 := by
    rcases h3 with h | h
    · exact sm_raw hs' h
    · rw [h]; exact sm_zv
  have ht' : Sm_Time 1048576 t := ht
  simp only [to_Store a hs, to_Time t ht', bnd_some', h1, h2, eq_Version g.1 hg, eq_Store (a : DStore) hs', beq_self_eq_true, bne_self_eq_false, Bool.not_true, br_false]
end Go.Ev.T1
