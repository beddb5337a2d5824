import Derived.Test.YtmigbnokhhdopaaGreatRcQ6
set_option linter.unusedSimpArgs false
set_option linter.unusedVariables false
set_option maxRecDepth 100000
namespace Go.Ev.T1
open Go Go.Proofs
theorem KB_le (l : List KV) : (KB l).1.length ≤ 3232 := by
 unfold KB
 split
 ·rename_i h
  have := flat_le' l h.2
  have := h.1
  show (l.flatMap encV).length ≤ 3232
  omega
 ·simp
theorem pairs_sm {t : y4q} {row : List y3q} : (pairsOf t row).1.length ≤ 1048576 ∧ ∀ y ∈ (pairsOf t row).1, Sm_Pair 1048576 y := by
 unfold pairsOf
 split
 ·rename_i h
  have h8 := h.1.2.2.2.2.2.2.2.1
  split
  ·have hel := ents_le (t := t) (row := row) t.2.2.2.2.2.1.length
   refine ⟨by simp only [List.length_cons]; omega, fun y hy => ?_⟩
   rcases List.mem_cons.1 hy with rfl | hy
   ·unfold y65q
    split
    ·rename_i h16
     refine ⟨Nat.le_trans (KB_le ([num t.1, num 0] ++ pick t row t.2.2.2.2.1)) (by decide), ?_⟩
     have := flat_le' _ (vals_vok h.2)
     show ((vals t row (own t row)).flatMap encV).length ≤ _
     omega
    ·exact ⟨by simp, by simp⟩
   ·unfold ents at hy
    obtain ⟨x, _, rfl⟩ := List.mem_map.1 hy
    refine ⟨?_, by simp [entry]⟩
    exact Nat.le_trans (KB_le ([num t.1, num x.1] ++ pick t row x.2.2.1 ++ pick t row t.2.2.2.2.1)) (by decide)
  ·exact ⟨by simp, by simp⟩
 ·exact ⟨by simp, by simp⟩
theorem puts_sm {t : y4q} {row : List y3q} : (putsOf t row).1.length ≤ 1048576 ∧ ∀ y ∈ (putsOf t row).1, Sm_Pair 1048576 y := by
 unfold putsOf
 split
 ·exact ⟨by simp, by simp⟩
 ·exact pairs_sm
theorem key_sm (t : y4q) (row : List y3q) : ∀ k ∈ keysOf t row, k.length ≤ 1048576 := by
 intro k hk
 unfold keysOf at hk
 rcases List.mem_cons.1 hk with rfl | hk
 ·unfold y65q
  split
  ·exact Nat.le_trans (KB_le ([num t.1, num 0] ++ pick t row t.2.2.2.2.1)) (by decide)
  ·simp
 ·unfold kx at hk
  obtain ⟨x, _, rfl⟩ := List.mem_map.1 hk
  exact Nat.le_trans (KB_le ([num t.1, num x.1] ++ pick t row x.2.2.1 ++ pick t row t.2.2.2.2.1)) (by decide)
theorem change_sm {t : y4q} {old now : List y3q} : ((y129q t old now).1.length ≤ 1048576 ∧ ∀ y ∈ (y129q t old now).1, Sm_Pair 1048576 y) ∧ ((y129q t old now).2.1.length ≤ 1048576 ∧ ∀ y ∈ (y129q t old now).2.1, y.length ≤ 1048576) := by
 unfold y129q
 split
 ·rename_i h
  split
  ·split
   ·exact ⟨puts_sm, by simp, by simp⟩
   ·split
    ·refine ⟨puts_sm, ?_, fun y hy => key_sm t old y (List.mem_filter.1 hy).1⟩
     have h1 := List.length_filter_le (fun k => !isPut (putsOf t now).1 k) (keysOf t old)
     have h2 := keys_len (t := t) (old := old) h.1
     exact Nat.le_trans h1 h2
    ·exact ⟨⟨by simp, by simp⟩, by simp, by simp⟩
  ·exact ⟨⟨by simp, by simp⟩, by simp, by simp⟩
 ·exact ⟨⟨by simp, by simp⟩, by simp, by simp⟩
theorem law_RowChange (a : DLTable) (ha : Sm_LTable maxLen a) (b : List y3q) (hb : b.length ≤ maxLen ∧ ∀ y ∈ b, Sm_Value maxLen y) (c : List y3q) (hc : c.length ≤ maxLen ∧ ∀ y ∈ c, Sm_Value maxLen y) : F_u81f a b c = some true := by
 unfold F_u81f
 obtain ⟨r, hr, h⟩ := sz_Table a 1048576 (by decide) (by decide) ha
 rw [hr, y0q]
 rcases h with rfl | ⟨r0, r1, hs⟩
 ·exact y6q (by decide) _ _
 rw [y16q (by omega)]
 obtain ⟨q, hq, h⟩ := sz_ValueS b r (by omega) (by omega) hb
 rw [hq, y0q]
 rcases h with rfl | ⟨q0, q1, hv⟩
 ·exact y6q (by decide) _ _
 rw [y16q (by omega)]
 obtain ⟨p, hp, h⟩ := sz_ValueS c q (by omega) (by omega) hc
 rw [hp, y0q]
 rcases h with rfl | ⟨p0, p1, hu⟩
 ·exact y6q (by decide) _ _
 rw [y16q (by omega)]
 have hs' : Sm_Table 1048576 a := hs
 have hv' : b.length ≤ 1048576 ∧ ∀ y ∈ b, Sm_Value 1048576 y := hv
 have hu' : c.length ≤ 1048576 ∧ ∀ y ∈ c, Sm_Value 1048576 y := hu
 have hold : SmRow b := ⟨hv'.1, fun v h => (hv'.2 v h).2.2.2⟩
 have hnow : SmRow c := ⟨hu'.1, fun v h => (hu'.2 v h).2.2.2⟩
 have h1 := specChange hs' hold hnow
 have h2 := implChange hs' hold hnow
 obtain ⟨h3, h4⟩ := change_sm (t := a) (old := b) (now := c)
 obtain ⟨k1, x1, x2, x3, e1, g1, g1'⟩ := mkx_Table a 1 hs' (by decide) (by decide)
 obtain ⟨k2, y1, e2, g2, g2'⟩ := mk_ValueS b k1 hv' (by omega) (by have : (MkMax : Int) = MkMax := rfl; unfold MkMax; omega)
 obtain ⟨k3, y2, e3, g3, g3'⟩ := mk_ValueS c k2 hu' (by omega) (by have : (MkMax : Int) = MkMax := rfl; unfold MkMax; omega)
 obtain ⟨k4, z1, e4, f4, g4, g4'⟩ := mk_PairS (y129q a b c).1 1 h3 (by decide) (by decide)
 obtain ⟨k5, z2, e5, f5, g5, g5'⟩ := mk_StringS (y129q a b c).2.1 k4 h4 (by omega) (by have : (MkMax : Int) = MkMax := rfl; unfold MkMax; omega)
 have n1 : decide (k3 < 0) = false := decide_eq_false (by omega)
 have n2 : decide (k4 < 0) = false := decide_eq_false (by omega)
 have n3 : decide (k5 < 0) = false := decide_eq_false (by omega)
 simp only [to_Table a hs, to_ValueS b hv, to_ValueS c hu, y0q, h1, h2, eq_PairS _ h3, eq_StringS _ h4, eq_Table (a : y4q) hs', eq_ValueS b hv', eq_ValueS c hu', e1, e2, e3, e4, f4, e5, f5, n1, n2, n3, beq_self_eq_true, bne_self_eq_false, Bool.not_true, y33q]
end Go.Ev.T1
