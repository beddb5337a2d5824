/- The law of ReadValue. -/
import Derived.Test.YthcpfdomggaaaaaGreatDoorRvQ9
set_option linter.unusedSimpArgs false
set_option linter.unusedVariables false
set_option maxRecDepth 100000
namespace Go.Ev.T1
open Go Go.Proofs
theorem take_pre (a : List UInt8) (h : 4 < a.length) (he : a.take 4 = dayS) : a = dayS ++ a.drop 4 := by rw [← he, List.take_append_drop]
def day5 : List UInt8 := [100, 97, 121, 32, 39]
theorem pre5 (q : List UInt8) : Go.Lib.hasPrefix (dayS ++ q) day5 = decide (1 ≤ q.length ∧ q.getD 0 0 = 39) := by
  unfold Go.Lib.hasPrefix
  rw [Bool.eq_iff_iff, decide_eq_true_iff]
  cases q with
  | nil => simp [dayS, day5, List.isPrefixOf]
  | cons c q =>
    simp [dayS, day5, List.isPrefixOf]
    exact eq_comm
theorem pre5_no (a : List UInt8) (h : ¬ (4 < a.length ∧ a.take 4 = dayS)) : Go.Lib.hasPrefix a day5 = false := by
  rw [Bool.eq_false_iff]
  intro hp
  unfold Go.Lib.hasPrefix at hp
  rw [List.isPrefixOf_iff_prefix] at hp
  obtain ⟨t, rfl⟩ := hp
  exact h ⟨by simp [day5], rfl⟩
/-- the program, behind the three words -/
noncomputable def implRest (a : List UInt8) : Option (DValue × Int) := bnd (strings_CutPrefix 0 a [100, 97, 121, 32, 39]) (fun y1 => br (y1.2) (bnd (strings_CutSuffix 0 y1.1 [39]) (fun y2 => br (!y2.2) (some (((0 : Int), (0 : Int), (0 : Int), ([] : List UInt8), ()), 5)) (bnd (F_impl_readDay y2.1) (fun y3 => some (y3.1, y3.2))))) (bnd (strings_HasPrefix 0 a [39]) (fun y2 => br (y2) (br (decide ((↑(List.length a) : Int) < 2)) (some (((0 : Int), (0 : Int), (0 : Int), ([] : List UInt8), ()), 5)) (br (decide ((↑(List.length a) : Int) > 402)) (some (((0 : Int), (0 : Int), (0 : Int), ([] : List UInt8), ()), 5)) (br (decide (0 ≤ IntKind.i64.wrap ((↑(List.length a) : Int) - 1))) (br (decide (IntKind.i64.wrap ((↑(List.length a) : Int) - 1) < (↑(List.length a) : Int))) (br ((↑(List.getD a (IntKind.i64.wrap ((↑(List.length a) : Int) - 1)).toNat 0).toNat : Int) != 39) (some (((0 : Int), (0 : Int), (0 : Int), ([] : List UInt8), ()), 5)) (bnd (F_impl_printable a) (fun y3 => br (!y3) (some (((0 : Int), (0 : Int), (0 : Int), ([] : List UInt8), ()), 5)) (br (decide (0 ≤ 1)) (br (decide (1 ≤ IntKind.i64.wrap ((↑(List.length a) : Int) - 1))) (br (decide (IntKind.i64.wrap ((↑(List.length a) : Int) - 1) ≤ (↑(List.length a) : Int))) (bnd (strings_ReplaceAll 0 (List.drop (Int.toNat 1) (List.take (IntKind.i64.wrap ((↑(List.length a) : Int) - 1)).toNat a)) [39, 39] []) (fun y4 => bnd (strings_Contains 0 y4 [39]) (fun y5 => br (y5) (some (((0 : Int), (0 : Int), (0 : Int), ([] : List UInt8), ()), 5)) (bnd (strings_ReplaceAll 0 (List.drop (Int.toNat 1) (List.take (IntKind.i64.wrap ((↑(List.length a) : Int) - 1)).toNat a)) [39, 39] [39]) (fun y6 => br (decide ((↑(List.length y6) : Int) > 200)) (some (((0 : Int), (0 : Int), (0 : Int), ([] : List UInt8), ()), 3)) (some ((4, 0, 0, y6, ()), 0))))))) (none)) (none)) (none))))) (none)) (none)))) (bnd (F_impl_readNum a) (fun y3 => some (y3.1, y3.2))))))
theorem cutPre (a : List UInt8) : strings_CutPrefix 0 a [100, 97, 121, 32, 39] = some (Go.Lib.trimPrefix a day5, Go.Lib.hasPrefix a day5) := rfl
theorem eta_bnd (m : Option (DValue × Int)) : (bnd m fun y => some (y.1, y.2)) = m := by cases m <;> rfl
theorem impl_long (a : List UInt8) (h : 402 < a.length) (ha : a.length ≤ 1048576) : implRest a = some (ZV, 5) := by
  unfold implRest
  rw [cutPre, bnd_some']
  dsimp only
  cases hp : Go.Lib.hasPrefix a day5 with
  | true =>
    rw [brT]
    unfold Go.Lib.trimPrefix
    rw [hp, if_pos rfl]
    have hl : (a.drop day5.length).length = a.length - 5 := by simp [day5]
    generalize a.drop day5.length = q at hl
    have hcs : strings_CutSuffix 0 q [39] = some (Go.Lib.trimSuffix q [39], Go.Lib.hasSuffix q [39]) := by
      unfold strings_CutSuffix
      have : Nat.ble q.length 9223372036854775807 = true := Nat.ble_eq_true_of_le (by omega)
      rw [this]; rfl
    rw [hcs, bnd_some']
    dsimp only
    cases hs : Go.Lib.hasSuffix q [39] with
    | false => rfl
    | true =>
      rw [Bool.not_true, brF]
      unfold Go.Lib.trimSuffix
      rw [hs, if_pos rfl]
      have hl2 : (q.take (q.length - [(39 : UInt8)].length)).length = q.length - 1 := by simp
      generalize q.take (q.length - [(39 : UInt8)].length) = z at hl2
      unfold F_impl_readDay
      rw [bne_dec, br_pos (show ¬ (z.length : Int) = 10 by omega)]
      rfl
  | false =>
    rw [brF, show strings_HasPrefix 0 a [39] = some (Go.Lib.hasPrefix a [39]) from rfl, bnd_some']
    cases hq : Go.Lib.hasPrefix a [39] with
    | true => rw [brT, br_neg (show ¬ (a.length : Int) < 2 by omega), br_pos (show (a.length : Int) > 402 by omega)]; rfl
    | false => rw [brF, eta_bnd, number_long a h (by omega)]
/-- the reference, behind the three words -/
theorem restSame (a : List UInt8) (h402 : a.length ≤ 402) :
    Same (bnd (br (decide ((↑(List.length a) : Int) > 4)) (br (decide (0 ≤ 4)) (br (decide (4 ≤ (↑(List.length a) : Int))) (br (List.take (Int.toNat 4) a == [100, 97, 121, 32]) (br (decide (0 ≤ 4)) (br (decide (4 ≤ (↑(List.length a) : Int))) (bnd (F_spec_l01ReadQuoted (List.drop (Int.toNat 4) a)) (fun y1 => br (!y1.2) (some (Sum.inr (((0 : Int), (0 : Int), (0 : Int), ([] : List UInt8), ()), 5))) (bnd (F_spec_l01ReadDay y1.1) (fun y2 => some (Sum.inr (y2.1, y2.2)))))) (none)) (none)) (some (Sum.inl (a, (0 : Int), (0 : Int), (0 : Int), ([] : List UInt8), ())))) (none)) (none)) (some (Sum.inl (a, (0 : Int), (0 : Int), (0 : Int), ([] : List UInt8), ())))) (fun y1 => onSum y1 (fun y2 => br (decide ((↑(List.length y2.1) : Int) > 0)) (br (decide (0 ≤ 0)) (br (decide (0 < (↑(List.length y2.1) : Int))) (br ((↑(List.getD y2.1 (Int.toNat 0) 0).toNat : Int) == 39) (bnd (F_spec_l01ReadQuoted y2.1) (fun y3 => br (!y3.2) (some (((0 : Int), (0 : Int), (0 : Int), ([] : List UInt8), ()), 5)) (bnd (F_spec_l01Printable y3.1) (fun y4 => br (!y4) (some (((0 : Int), (0 : Int), (0 : Int), ([] : List UInt8), ()), 5)) (br (decide ((↑(List.length y3.1) : Int) > 200)) (some (((0 : Int), (0 : Int), (0 : Int), ([] : List UInt8), ()), 3)) (bnd (F_spec_l01Str y3.1) (fun y5 => some (y5, 0)))))))) (bnd (F_spec_l01ReadNumber y2.1) (fun y3 => some (y3.1, y3.2)))) (none)) (none)) (bnd (F_spec_l01ReadNumber y2.1) (fun y3 => some (y3.1, y3.2)))) (fun y2 => some y2)))
      (implRest a) := by
  by_cases hd : 4 < a.length ∧ a.take 4 = dayS
  · have h4 : (a.length : Int) > 4 := by omega
    have hb : (a.take (Int.toNat 4) == [100, 97, 121, 32]) = true := by
      have : a.take (Int.toNat 4) = dayS := hd.2
      rw [this]; rfl
    rw [br_pos h4, br_pos (show 0 ≤ 4 by decide), br_pos (show (4 : Int) ≤ a.length by omega), hb, brT, br_pos (show 0 ≤ 4 by decide), br_pos (show (4 : Int) ≤ a.length by omega)]
    have key := daySame2 (a.drop 4) (by simp; omega)
    have ei : implRest a = (if 1 ≤ (a.drop 4).length ∧ (a.drop 4).getD 0 0 = 39 then (bnd (strings_CutSuffix 0 ((a.drop 4).drop 1) [39]) (fun y2 => br (!y2.2) (some (((0 : Int), (0 : Int), (0 : Int), ([] : List UInt8), ()), (5 : Int))) (bnd (F_impl_readDay y2.1) (fun y3 => some (y3.1, y3.2))))) else some (ZV, 5)) := by
      unfold implRest
      rw [cutPre, bnd_some']
      dsimp only
      have hpre := pre5 (a.drop 4)
      rw [← take_pre a hd.1 hd.2] at hpre
      by_cases hq : 1 ≤ (a.drop 4).length ∧ (a.drop 4).getD 0 0 = 39
      · unfold Go.Lib.trimPrefix
        rw [hpre, decide_eq_true hq, if_pos rfl, brT, if_pos hq, List.drop_drop]
        rfl
      · rw [hpre, decide_eq_false hq, brF, if_neg hq, show strings_HasPrefix 0 a [39] = some (Go.Lib.hasPrefix a [39]) from rfl, bnd_some', prefix_one]
        have h0 : a.getD 0 0 = 100 := by rw [take_pre a hd.1 hd.2]; rfl
        rw [h0, decide_eq_false (by rintro ⟨_, h⟩; exact absurd h (by decide)), brF, eta_bnd]
        rw [take_pre a hd.1 hd.2]
        show F_impl_readNum (100 :: ([97, 121, 32] ++ a.drop 4)) = _
        exact number_letter 100 _ (by simp; omega) (by decide) (by decide) (by decide)
    rw [ei]
    have es : ∀ m : Option (List UInt8 × Bool), bnd (bnd m (fun y1 => br (!y1.2) (some (Sum.inr (((0 : Int), (0 : Int), (0 : Int), ([] : List UInt8), ()), (5 : Int)))) (bnd (F_spec_l01ReadDay y1.1) (fun y2 => some (Sum.inr (y2.1, y2.2)))))) (fun y1 : (List UInt8 × DValue) ⊕ (DValue × Int) => onSum y1 (fun y2 => br (decide ((↑(List.length y2.1) : Int) > 0)) (br (decide (0 ≤ 0)) (br (decide (0 < (↑(List.length y2.1) : Int))) (br ((↑(List.getD y2.1 (Int.toNat 0) 0).toNat : Int) == 39) (bnd (F_spec_l01ReadQuoted y2.1) (fun y3 => br (!y3.2) (some (((0 : Int), (0 : Int), (0 : Int), ([] : List UInt8), ()), 5)) (bnd (F_spec_l01Printable y3.1) (fun y4 => br (!y4) (some (((0 : Int), (0 : Int), (0 : Int), ([] : List UInt8), ()), 5)) (br (decide ((↑(List.length y3.1) : Int) > 200)) (some (((0 : Int), (0 : Int), (0 : Int), ([] : List UInt8), ()), 3)) (bnd (F_spec_l01Str y3.1) (fun y5 => some (y5, 0)))))))) (bnd (F_spec_l01ReadNumber y2.1) (fun y3 => some (y3.1, y3.2)))) (none)) (none)) (bnd (F_spec_l01ReadNumber y2.1) (fun y3 => some (y3.1, y3.2)))) (fun y2 => some y2))
        = bnd m (fun y1 => br (!y1.2) (some (((0 : Int), (0 : Int), (0 : Int), ([] : List UInt8), ()), (5 : Int))) (bnd (F_spec_l01ReadDay y1.1) (fun y2 => some (y2.1, y2.2)))) := by
      intro m
      cases m with
      | none => rfl
      | some y =>
        obtain ⟨l, b⟩ := y
        cases b with
        | false => rfl
        | true =>
          rw [bnd_some', bnd_some']
          dsimp only
          rw [Bool.not_true, brF, brF]
          cases F_spec_l01ReadDay l <;> rfl
    have es2 := es (F_spec_l01ReadQuoted (a.drop 4))
    exact (show Same _ _ from es2 ▸ key)
  · have hnb : br (decide ((↑(List.length a) : Int) > 4)) (br (decide (0 ≤ 4)) (br (decide (4 ≤ (↑(List.length a) : Int))) (br (List.take (Int.toNat 4) a == [100, 97, 121, 32]) (br (decide (0 ≤ 4)) (br (decide (4 ≤ (↑(List.length a) : Int))) (bnd (F_spec_l01ReadQuoted (List.drop (Int.toNat 4) a)) (fun y1 => br (!y1.2) (some (Sum.inr (((0 : Int), (0 : Int), (0 : Int), ([] : List UInt8), ()), (5 : Int)))) (bnd (F_spec_l01ReadDay y1.1) (fun y2 => some (Sum.inr (y2.1, y2.2)))))) (none)) (none)) (some (Sum.inl (a, (0 : Int), (0 : Int), (0 : Int), ([] : List UInt8), ())))) (none)) (none)) (some (Sum.inl (a, (0 : Int), (0 : Int), (0 : Int), ([] : List UInt8), ()))) = some (Sum.inl (a, (0 : Int), (0 : Int), (0 : Int), ([] : List UInt8), ())) := by
      by_cases h4 : (a.length : Int) > 4
      · have hb : (a.take (Int.toNat 4) == [100, 97, 121, 32]) = false := by
          rw [beq_dec, decide_eq_false]
          exact fun h => hd ⟨by omega, h⟩
        rw [br_pos h4, br_pos (show 0 ≤ 4 by decide), br_pos (show (4 : Int) ≤ a.length by omega), hb, brF]
      · rw [br_neg h4]
    rw [hnb, bnd_some', onSum_inl]
    dsimp only
    unfold implRest
    rw [cutPre, pre5_no a hd, bnd_some']
    dsimp only
    rw [brF, show strings_HasPrefix 0 a [39] = some (Go.Lib.hasPrefix a [39]) from rfl, bnd_some', prefix_one]
    by_cases h0 : (a.length : Int) > 0
    · rw [br_pos h0, br_pos (show 0 ≤ 0 by decide), br_pos (show (0 : Int) < a.length by omega), show ((((a.getD (Int.toNat 0) 0).toNat : Nat) : Int) == 39) = (a.getD 0 0 == 39) from beq39 _, beq_dec]
      by_cases h39 : a.getD 0 0 = 39
      · rw [br_pos h39, decide_eq_true (show 0 < a.length ∧ a.getD 0 0 = 39 from ⟨by omega, h39⟩), brT]
        exact quoteSame a h402 h39 (by omega)
      · rw [br_neg h39, decide_eq_false (show ¬ (0 < a.length ∧ a.getD 0 0 = 39) from fun h => h39 h.2), brF]
        exact same_eta (numberSame a (by omega))
    · rw [br_neg h0, decide_eq_false (show ¬ (0 < a.length ∧ a.getD 0 0 = 39) from fun h => h0 (by omega)), brF]
      exact same_eta (numberSame a (by omega))
theorem valueSame (a : List UInt8) (ha : a.length ≤ 1048576) : Same (F_spec_ReadValue a) (F_impl_ReadValue a) := by
  unfold F_spec_ReadValue F_impl_ReadValue
  by_cases hn : a = [110, 117, 108, 108]
  · subst hn; exact same_rfl
  by_cases ht : a = [116, 114, 117, 101]
  · subst ht; exact same_rfl
  by_cases hf : a = [102, 97, 108, 115, 101]
  · subst hf; exact same_rfl
  have bn : (a == [110, 117, 108, 108]) = false := by rw [beq_dec, decide_eq_false hn]
  have bt : (a == [116, 114, 117, 101]) = false := by rw [beq_dec, decide_eq_false ht]
  have bf : (a == [102, 97, 108, 115, 101]) = false := by rw [beq_dec, decide_eq_false hf]
  rw [bn, bt, bf]
  simp only [brF]
  show Same _ (implRest a)
  by_cases hl : (a.length : Int) > 402
  · rw [br_pos hl, impl_long a (by omega) ha]
    exact same_rfl
  · rw [br_neg hl]
    exact restSame a (by omega)
theorem okV (r : DValue × Int) : F_laws_eqValue r.1 r.1 = some true := by
  unfold F_laws_eqValue
  simp only [bne_self_eq_false, beq_self_eq_true, Bool.not_true, br_false, bnd_some']
theorem law_ReadValue (a : List UInt8) : F_laws_FnExactReadValue a = some true := by
  unfold F_laws_FnExactReadValue
  by_cases h : (a.length : Int) > 1048576
  · exact br_pos h _ _
  · rw [br_neg h]
    obtain ⟨r, h1, h2⟩ := valueSame a (by omega)
    rw [h1, h2, bnd_some', bnd_some', okV, bnd_some', Bool.not_true, brF]
    simp only [bne_self_eq_false, brF]
end Go.Ev.T1
