import Derived.Test.YtmigbnokhhdopaaGreatRcQ5
import Derived.Test.YtmigbnokhhdopaaGreatRcMk
set_option linter.unusedSimpArgs false
set_option linter.unusedVariables false
set_option maxRecDepth 100000
namespace Go.Ev.T1
open Go Go.Proofs
variable {t : y4q} {old now : List y3q}
theorem bneF {a : Int} (h : a = 0) : (a != 0) = false := by simp [h]
theorem bneT {a : Int} (h : ¬ a = 0) : (a != 0) = true := by simp [h]
theorem keys_len (hT : SpecTable t) : (keysOf t old).length ≤ 1048576 := by
 have h8 := hT.2.2.2.2.2.2.2.1
 have := kx_len (t := t) (row := old) t.2.2.2.2.2.1.length
 unfold keysOf
 simp only [List.length_cons]
 omega
theorem specChange (hs : Sm_Table 1048576 t) (ho : SmRow old) (hn : SmRow now) : F_u58f t old now = some (y129q t old now) := by
 have ht := hs.2.2.2.1.1
 unfold F_u58f y129q
 by_cases hT : SpecTable t
 rotate_left
 ·rw [(specTable hs).2 hT, y0q, if_neg (fun h => hT h.1)]
  rfl
 rw [(specTable hs).1 hT, y0q]
 have hra := rows_ans (t := t) (F := F_u55f) (fun r hr => specRowOK hr) ho hn (some (Sum.inl (old, now, t, ([] : List DPair), ([] : List (List UInt8)))) : Option ((List y3q × List y3q × y4q × List DPair × List (List UInt8)) ⊕ (List DPair × List (List UInt8) × Int))) (some (Sum.inr ([], [], 1)))
 show bnd (br (decide ((old.length : Int) > 0)) _ _) _ = _
 by_cases hR : (old ≠ [] → RowFits t old) ∧ (now ≠ [] → RowFits t now)
 rotate_left
 ·rw [if_neg (fun h => hR h.2), hra.2 hR]
  rfl
 rw [if_pos ⟨hT, hR⟩, hra.1 hR, y0q]
 dsimp only [onSum]
 have tail : ∀ ps : List DPair, ps.length ≤ 1048576 → br ((old.length : Int) == 0) (some (ps, ([] : List (List UInt8)), (0 : Int))) (bnd (F_u56f t old) fun y5 => br (y5.2 != 0) (some ([], [], y5.2)) (bnd (F_u58f_l0 old t ps [] [y5.1.1] 0) fun y6 => bnd (F_u58f_l2 y6.1 y6.2.1 y6.2.2 0) fun y7 => some (y7.1, y7.2, 0))) =
   some (if old = [] then (ps, [], 0) else if (y65q t old).2 = 0 then (ps, y163q ps (keysOf t old), 0) else ([], [], (y65q t old).2)) := by
  intro ps hps
  by_cases h0 : old = []
  ·subst h0
   rw [if_pos rfl]
   rfl
  ·have hlen : ¬ (old.length : Int) = 0 := by
    have := (lenpos old).2 h0
    omega
   rw [beqF _ _ hlen, if_neg h0]
   show bnd (F_u56f t old) _ = _
   have hf := hR.1 h0
   rw [specOwn ht ho hT hf, y0q]
   simp only [y141q]
   by_cases h1 : (y65q t old).2 = 0
   ·rw [y16q (fun h => h h1), specKeysLoop ht ho hT hf, y0q, if_pos h1]
    show bnd (F_u58f_l2 ps [] (keysOf t old) 0) _ = _
    rw [specDrops ps _ hps (keys_len hT), y0q]
   ·rw [y6q h1, if_neg h1]
 unfold putsOf
 by_cases hw : now = []
 ·subst hw
  rw [if_pos rfl, if_pos rfl]
  show bnd (br (decide (((([] : List y3q).length : Nat) : Int) > 0)) _ _) _ = _
  rw [y16q (by simp), y0q]
  exact tail [] (by simp)
 ·rw [if_neg hw]
  show bnd (br (decide ((now.length : Int) > 0)) _ _) _ = _
  rw [y6q ((lenpos now).2 hw), specPairs hs hn, y0q]
  by_cases h1 : (pairsOf t now).2 = 0
  ·rw [bneF h1, brFF, y0q, if_pos h1]
   exact tail _ (by have := puts_len t now; unfold putsOf at this; rwa [if_neg hw] at this)
  ·rw [bneT h1, brTT, y0q, if_neg h1]
theorem implChange (hs : Sm_Table 1048576 t) (ho : SmRow old) (hn : SmRow now) : F_u77f t old now = some (y129q t old now) := by
 have ht := hs.2.2.2.1.1
 unfold F_u77f y129q
 by_cases hT : SpecTable t
 rotate_left
 ·rw [(implTable' hs).2 hT, y0q, if_neg (fun h => hT h.1)]
  rfl
 rw [(implTable' hs).1 hT, y0q]
 have hra := rows_ans (t := t) (F := F_u72f) (fun r hr => implRowOK hr) ho hn (some (Sum.inl (old, now, t)) : Option ((List y3q × List y3q × y4q) ⊕ (List DPair × List (List UInt8) × Int))) (some (Sum.inr ([], [], 1)))
 show bnd (br (decide ((old.length : Int) > 0)) _ _) _ = _
 by_cases hR : (old ≠ [] → RowFits t old) ∧ (now ≠ [] → RowFits t now)
 rotate_left
 ·rw [if_neg (fun h => hR h.2)]
  refine Eq.trans (bnd_eq (hra.2 hR)) ?_
  rfl
 rw [if_pos ⟨hT, hR⟩]
 refine Eq.trans (bnd_eq (hra.1 hR)) ?_
 dsimp only [onSum]
 have tail : ∀ ps : List DPair, ps.length ≤ 1048576 → br (decide ((old.length : Int) > 0)) (bnd (F_u74f t old) fun y5 => br (y5.2 != 0) (some ([], [], y5.2)) (bnd (F_u77f_l0 old t ps [] [y5.1.1] t.2.2.2.2.2.1 (t.2.2.2.2.2.1.length : Int) 0) fun y6 => bnd (F_u77f_l2 y6.1 y6.2.1 y6.2.2 (y6.2.2.length : Int) 0) fun y7 => some (y7.1, y7.2, 0))) (some (ps, ([] : List (List UInt8)), (0 : Int))) =
   some (if old = [] then (ps, [], 0) else if (y65q t old).2 = 0 then (ps, y163q ps (keysOf t old), 0) else ([], [], (y65q t old).2)) := by
  intro ps hps
  by_cases h0 : old = []
  ·subst h0
   rw [if_pos rfl]
   rfl
  ·rw [y6q ((lenpos old).2 h0), if_neg h0]
   have hf := hR.1 h0
   rw [implOwn ht ho hT hf, y0q]
   simp only [y141q]
   by_cases h1 : (y65q t old).2 = 0
   ·rw [y16q (fun h => h h1), implKeysLoop ht ho hT hf, y0q, if_pos h1]
    show bnd (F_u77f_l2 ps [] (keysOf t old) ((keysOf t old).length : Int) 0) _ = _
    rw [implDrops ps _ hps (keys_len hT), y0q]
   ·rw [y6q h1, if_neg h1]
 unfold putsOf
 by_cases hw : now = []
 ·subst hw
  rw [if_pos rfl, if_pos rfl]
  show bnd (br (decide (((([] : List y3q).length : Nat) : Int) > 0)) _ _) _ = _
  rw [y16q (by simp), y0q]
  exact tail [] (by simp)
 ·rw [if_neg hw]
  show bnd (br (decide ((now.length : Int) > 0)) _ _) _ = _
  rw [y6q ((lenpos now).2 hw), implPairs hs hn, y0q]
  by_cases h1 : (pairsOf t now).2 = 0
  ·rw [bneF h1, brFF, y0q, if_pos h1]
   exact tail _ (by have := puts_len t now; unfold putsOf at this; rwa [if_neg hw] at this)
  ·rw [bneT h1, brTT, y0q, if_neg h1]
end Go.Ev.T1
