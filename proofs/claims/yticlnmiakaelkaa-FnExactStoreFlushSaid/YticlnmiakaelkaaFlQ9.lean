/- The law of StoreFlush. -/
import Derived.Test.YticlnmiakaelkaaFlQ8
import Derived.Test.YticlnmiakaelkaaFlMk
set_option linter.unusedSimpArgs false
set_option linter.unusedVariables false
namespace Go.Ev.T1
open Go Go.Proofs
theorem law_StoreFlush (a : DLStore) (ha : Sm_LStore maxLen a) : F_laws_FnExactStoreFlush a = some true := by
  unfold F_laws_FnExactStoreFlush
  obtain ⟨r, hr, h⟩ := sz_Store a 1048576 (by decide) (by decide) ha
  rw [hr, bnd_some']
  rcases h with rfl | ⟨r0, r1, hs⟩
  · exact br_pos (by decide) _ _
  rw [br_neg (by omega)]
  have hs' : Sm_Store 1048576 a := hs
  obtain ⟨g, h1, h2, h3⟩ := flush_same a hs'
  obtain ⟨k1, x1, y1, e1, f1, g1, g1'⟩ := mkx_Store a 1 hs' (by decide) (by decide)
  obtain ⟨k2, x2, y2, e2, f2, g2, g2'⟩ := mkx_Store g.1 1 h3 (by decide) (by decide)
  have n1 : decide (k1 < 0) = false := decide_eq_false (by omega)
  have n2 : decide (k2 < 0) = false := decide_eq_false (by omega)
  simp only [to_Store a hs, bnd_some', h1, h2, eq_Store g.1 h3, eq_Store (a : DStore) hs', e1, e2, f2, n1, n2, beq_self_eq_true, bne_self_eq_false, Bool.not_true, br_false]
end Go.Ev.T1
