/- Days as text: both ways the same. -/
import Derived.Test.YthcpfdomggaaaaaGreatDoorRvQ5
set_option linter.unusedSimpArgs false
set_option linter.unusedVariables false
set_option maxRecDepth 100000
namespace Go.Ev.T1
open Go Go.Proofs
theorem dig_append {a b : List UInt8} : Dig (a ++ b) ↔ Dig a ∧ Dig b := by
  unfold Dig
  constructor
  · intro h; exact ⟨fun c hc => h c (by simp [hc]), fun c hc => h c (by simp [hc])⟩
  · rintro ⟨h1, h2⟩ c hc
    rcases List.mem_append.1 hc with h | h
    · exact h1 c h
    · exact h2 c h
theorem same_eta {m m' : Option (DValue × Int)} (h : Same m m') : Same (bnd m fun y => some (y.1, y.2)) (bnd m' fun y => some (y.1, y.2)) := by
  obtain ⟨r, rfl, rfl⟩ := h
  exact ⟨_, rfl, rfl⟩
theorem readDaySame (s : List UInt8) : Same (F_spec_l01ReadDay s) (F_impl_readDay s) := by
  unfold F_spec_l01ReadDay F_impl_readDay
  simp only [bne_dec]
  refine same_br (fun _ => same_rfl) fun h10 => ?_
  have hl : (s.length : Int) = 10 := Classical.not_not.1 h10
  rw [br_pos (show 0 ≤ 4 by decide), br_pos (show (4 : Int) < s.length by omega), br_pos (show 0 ≤ 4 by decide), br_pos (show (4 : Int) < s.length by omega)]
  refine same_br (fun _ => same_rfl) fun _ => ?_
  rw [br_pos (show 0 ≤ 7 by decide), br_pos (show (7 : Int) < s.length by omega), br_pos (show 0 ≤ 7 by decide), br_pos (show (7 : Int) < s.length by omega)]
  refine same_br (fun _ => same_rfl) fun _ => ?_
  have e1 : (s.take (Int.toNat 4)).length = 4 := by simp; omega
  have e2 : ((s.take (Int.toNat 7)).drop (Int.toNat 5)).length = 2 := by simp; omega
  have e3 : (s.drop (Int.toNat 8)).length = 2 := by simp; omega
  rw [br_pos (show 0 ≤ 4 by decide), br_pos (show (4 : Int) ≤ s.length by omega), br_pos (show 0 ≤ 4 by decide), br_pos (show (4 : Int) ≤ s.length by omega)]
  generalize ha : s.take (Int.toNat 4) = a at e1 ⊢
  generalize hb : (s.take (Int.toNat 7)).drop (Int.toNat 5) = b at e2 ⊢
  generalize hc : s.drop (Int.toNat 8) = c at e3 ⊢
  have hcap1 : a.length + b.length ≤ capN := by unfold capN; omega
  have hcap2 : (a ++ b).length + c.length ≤ capN := by rw [List.length_append]; unfold capN; omega
  rw [br_pos (show 0 ≤ 5 by decide), br_pos (show 5 ≤ 7 by decide), br_pos (show (7 : Int) ≤ s.length by omega), br_pos hcap1, br_pos (show 0 ≤ 8 by decide), br_pos (show (8 : Int) ≤ s.length by omega), br_pos hcap2, implDigits _ (by simp; omega), bnd_some', not_dec]
  have na : a ≠ [] := by rintro rfl; simp at e1
  have nb : b ≠ [] := by rintro rfl; simp at e2
  have nc : c ≠ [] := by rintro rfl; simp at e3
  have hd : (a ++ b ++ c ≠ [] ∧ Dig (a ++ b ++ c)) ↔ Dig a ∧ Dig b ∧ Dig c := by
    rw [dig_append, dig_append, and_assoc]
    exact ⟨fun h => h.2, fun h => ⟨by simp [na], h⟩⟩
  by_cases da : Dig a
  · rw [specCount_ok ⟨by omega, by omega, da⟩, bnd_some', br_pos (show 0 ≤ 5 by decide), br_pos (show 5 ≤ 7 by decide), br_pos (show (7 : Int) ≤ s.length by omega)]
    by_cases db : Dig b
    · rw [specCount_ok ⟨by omega, by omega, db⟩, bnd_some', br_pos (show 0 ≤ 8 by decide), br_pos (show (8 : Int) ≤ s.length by omega)]
      by_cases dc : Dig c
      · rw [specCount_ok ⟨by omega, by omega, dc⟩, bnd_some', br_neg (fun h => h (hd.2 ⟨da, db, dc⟩))]
        dsimp only
        rw [Bool.not_true, brF, brF, brF, br_pos (show (4 : Int) ≤ s.length by omega), atoi_dig a na (by omega) da, bnd_some', br_pos (show 0 ≤ 5 by decide), br_pos (show 5 ≤ 7 by decide), br_pos (show (7 : Int) ≤ s.length by omega), atoi_dig b nb (by omega) db, bnd_some', br_pos (show 0 ≤ 8 by decide), br_pos (show (8 : Int) ≤ s.length by omega), atoi_dig c nc (by omega) dc, bnd_some']
        exact same_eta (daySame _ _ _)
      · rw [specCount_no (fun h => dc h.2.2), bnd_some', show (decide ¬(a ++ b ++ c ≠ [] ∧ Dig (a ++ b ++ c))) = true from decide_eq_true (fun h => dc (hd.1 h).2.2), brT]
        exact same_rfl
    · rw [specCount_no (fun h => db h.2.2), bnd_some', show (decide ¬(a ++ b ++ c ≠ [] ∧ Dig (a ++ b ++ c))) = true from decide_eq_true (fun h => db (hd.1 h).2.1), brT, br_pos (show 0 ≤ 8 by decide), br_pos (show (8 : Int) ≤ s.length by omega), specCount, bnd_some']
      exact same_rfl
  · rw [specCount_no (fun h => da h.2.2), bnd_some', show (decide ¬(a ++ b ++ c ≠ [] ∧ Dig (a ++ b ++ c))) = true from decide_eq_true (fun h => da (hd.1 h).1), brT, br_pos (show 0 ≤ 5 by decide), br_pos (show 5 ≤ 7 by decide), br_pos (show (7 : Int) ≤ s.length by omega), specCount, bnd_some', br_pos (show 0 ≤ 8 by decide), br_pos (show (8 : Int) ≤ s.length by omega), specCount, bnd_some']
    exact same_rfl
end Go.Ev.T1
