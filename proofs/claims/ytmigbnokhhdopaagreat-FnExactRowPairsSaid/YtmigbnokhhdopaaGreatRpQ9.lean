import Derived.Test.YtmigbnokhhdopaaGreatRpQ4
set_option linter.unusedSimpArgs false
set_option linter.unusedVariables false
set_option maxRecDepth 100000
namespace Go.Ev.T1
open Go Go.Proofs
theorem KB_le (l : List KV) : (KB l).1.length ≤ 3232 := by
 unfold KB
 split
 ·rename_i h
  have := flat_le' l h.2
  have := h.1
  show (l.flatMap encV).length ≤ 3232
  omega
 ·simp
theorem pairs_sm {t : y4q} {row : List y3q} : (pairsOf t row).1.length ≤ 1048576 ∧ ∀ y ∈ (pairsOf t row).1, Sm_Pair 1048576 y := by
 unfold pairsOf
 split
 ·rename_i h
  have h8 := h.1.2.2.2.2.2.2.2.1
  split
  ·have hel := ents_le (t := t) (row := row) t.2.2.2.2.2.1.length
   refine ⟨by simp only [List.length_cons]; omega, fun y hy => ?_⟩
   rcases List.mem_cons.1 hy with rfl | hy
   ·unfold ownPair
    split
    ·rename_i h16
     refine ⟨Nat.le_trans (KB_le ([num t.1, num 0] ++ pick t row t.2.2.2.2.1)) (by decide), ?_⟩
     have := flat_le' _ (vals_vok h.2)
     show ((vals t row (own t row)).flatMap encV).length ≤ _
     omega
    ·exact ⟨by simp, by simp⟩
   ·unfold ents at hy
    obtain ⟨x, _, rfl⟩ := List.mem_map.1 hy
    refine ⟨?_, by simp [entry]⟩
    exact Nat.le_trans (KB_le ([num t.1, num x.1] ++ pick t row x.2.2.1 ++ pick t row t.2.2.2.2.1)) (by decide)
  ·exact ⟨by simp, by simp⟩
 ·exact ⟨by simp, by simp⟩
theorem law_RowPairs (a : DLTable) (ha : Sm_LTable maxLen a) (b : List y3q) (hb : b.length ≤ maxLen ∧ ∀ y ∈ b, Sm_Value maxLen y) : F_u75f a b = some true := by
 unfold F_u75f
 obtain ⟨r, hr, h⟩ := sz_Table a 1048576 (by decide) (by decide) ha
 rw [hr, y1q]
 rcases h with rfl | ⟨r0, r1, hs⟩
 ·exact y7q (by decide) _ _
 rw [y18q (by omega)]
 obtain ⟨q, hq, h⟩ := sz_ValueS b r (by omega) (by omega) hb
 rw [hq, y1q]
 rcases h with rfl | ⟨q0, q1, hv⟩
 ·exact y7q (by decide) _ _
 rw [y18q (by omega)]
 have hs' : Sm_Table 1048576 a := hs
 have hv' : b.length ≤ 1048576 ∧ ∀ y ∈ b, Sm_Value 1048576 y := hv
 have hrow : SmRow b := ⟨hv'.1, fun v h => (hv'.2 v h).2.2.2⟩
 have h1 := specPairs hs' hrow
 have h2 := implPairs hs' hrow
 have h3 := pairs_sm (t := a) (row := b)
 obtain ⟨k1, x1, x2, x3, e1, g1, g1'⟩ := mkx_Table a 1 hs' (by decide) (by decide)
 obtain ⟨k0, y1, e0, g0, g0'⟩ := mk_ValueS b k1 hv' (by omega) (by have : (MkMax : Int) = MkMax := rfl; unfold MkMax; omega)
 obtain ⟨k2, z1, e2, f2, g2, g2'⟩ := mk_PairS (pairsOf a b).1 1 h3 (by decide) (by decide)
 have n1 : decide (k0 < 0) = false := decide_eq_false (by omega)
 have n2 : decide (k2 < 0) = false := decide_eq_false (by omega)
 simp only [to_Table a hs, to_ValueS b hv, y1q, h1, h2, eq_PairS _ h3, eq_Table (a : y4q) hs', eq_ValueS b hv', e1, e0, e2, f2, n1, n2, beq_self_eq_true, bne_self_eq_false, Bool.not_true, y35q]
end Go.Ev.T1
