/- The law of ReadValue. -/
import Derived.Test.YthcpfdomggaaaaaGreatDoorRvQ8
import Derived.Test.YthcpfdomggaaaaaGreatDoorRvSz
set_option linter.unusedSimpArgs false
set_option linter.unusedVariables false
set_option maxRecDepth 100000
namespace Go.Ev.T1
open Go Go.Proofs
theorem numberSame (s : List UInt8) (hs : s.length ≤ 1048576) : Same (F_spec_l01ReadNumber s) (F_impl_readNum s) := ⟨_, specNumber s hs, implNumber s hs⟩
/-- too long for a number -/
theorem number_long (s : List UInt8) (h : 402 < s.length) (hs : s.length ≤ 1048576) : F_impl_readNum s = some (ZV, 5) := by
  rw [implNumber s hs]
  congr 1
  unfold numR
  by_cases hh : HeadP (headOf (restOf s))
  · rw [if_neg (fun h => h hh)]
    by_cases h48 : 1 < (headOf (restOf s)).length ∧ (headOf (restOf s)).getD 0 0 = 48
    · rw [if_pos h48]
    · rw [if_neg h48]
      have hr : s.length ≤ (restOf s).length + 1 := by unfold restOf; split <;> simp <;> omega
      by_cases hd : 0 ≤ idx isDot (restOf s)
      · rw [decide_eq_true hd, if_pos rfl]
        unfold numT
        rw [if_pos]
        have hi := idx_lt (p := isDot) (xs := restOf s)
        have e1 : (headOf (restOf s)).length = (idx isDot (restOf s)).toNat := by unfold headOf; rw [if_pos hd]; simp; omega
        have e2 : (tailOf (restOf s)).length = (restOf s).length - ((idx isDot (restOf s)).toNat + 1) := by unfold tailOf; rw [if_pos hd]; simp
        have := hh.2.1
        omega
      · have e1 : headOf (restOf s) = restOf s := by unfold headOf; rw [if_neg hd]
        have := hh.2.1
        rw [e1] at this; omega
  · rw [if_pos hh]
/-- a letter ahead: no number -/
theorem number_letter (c : UInt8) (l : List UInt8) (hs : (c :: l).length ≤ 1048576) (hc : ¬ isD c) (h45 : c ≠ 45) (h46 : c ≠ 46) : F_impl_readNum (c :: l) = some (ZV, 5) := by
  rw [implNumber _ hs]
  congr 1
  have hn : negOf (c :: l) = false := decide_eq_false fun h => h45 h.2
  have hr : restOf (c :: l) = c :: l := by unfold restOf; rw [hn, if_neg (by simp)]
  unfold numR
  rw [hr, if_pos]
  rintro ⟨a1, a2, a3⟩
  apply hc
  apply a3
  unfold headOf
  split
  · rename_i hi
    have hx : isDot c = false := by simpa [isDot] using h46
    have : (c :: l).findIdx isDot = l.findIdx isDot + 1 := by rw [List.findIdx_cons, hx]; rfl
    have hp : 0 < (idx isDot (c :: l)).toNat := by
      unfold idx at hi ⊢
      rw [this] at hi ⊢
      split at hi
      · rename_i h; rw [if_pos h]; omega
      · omega
    obtain ⟨k, hk⟩ : ∃ k, (idx isDot (c :: l)).toNat = k + 1 := ⟨(idx isDot (c :: l)).toNat - 1, by omega⟩
    rw [hk]; simp
  · simp
theorem suffix_one (s : List UInt8) : Go.Lib.hasSuffix s [39] = decide (1 ≤ s.length ∧ s.getD (s.length - 1) 0 = 39) := by
  unfold Go.Lib.hasSuffix
  rw [Bool.eq_iff_iff, decide_eq_true_iff, List.isSuffixOf_iff_suffix]
  constructor
  · rintro ⟨t, rfl⟩
    refine ⟨by simp, ?_⟩
    rw [getD_lt (by simp)]
    simp
  · rintro ⟨h1, h2⟩
    refine ⟨s.take (s.length - 1), ?_⟩
    rw [getD_lt (by omega)] at h2
    conv => rhs; rw [← List.take_append_drop (s.length - 1) s]
    congr 1
    rw [List.drop_eq_getElem_cons (show s.length - 1 < s.length by omega), h2]
    rw [show s.length - 1 + 1 = s.length by omega, List.drop_length]
def dayS : List UInt8 := [100, 97, 121, 32]
/-- behind "day " -/
theorem daySame2 (q : List UInt8) (hq : q.length ≤ 1048570) :
    Same (bnd (F_spec_l01ReadQuoted q) (fun y1 => br (!y1.2) (some (((0 : Int), (0 : Int), (0 : Int), ([] : List UInt8), ()), (5 : Int))) (bnd (F_spec_l01ReadDay y1.1) (fun y2 => some (y2.1, y2.2)))))
      (if 1 ≤ q.length ∧ q.getD 0 0 = 39 then (bnd (strings_CutSuffix 0 (q.drop 1) [39]) (fun y2 => br (!y2.2) (some (((0 : Int), (0 : Int), (0 : Int), ([] : List UInt8), ()), (5 : Int))) (bnd (F_impl_readDay y2.1) (fun y3 => some (y3.1, y3.2))))) else some (ZV, 5)) := by
  rw [specQuoted q (by omega), bnd_some']
  by_cases h0 : 1 ≤ q.length ∧ q.getD 0 0 = 39
  · rw [if_pos h0]
    have hsuf : Go.Lib.hasSuffix (q.drop 1) [39] = decide (quotedP q) := by
      rw [suffix_one, decide_eq_decide]
      unfold quotedP
      rw [List.length_drop]
      constructor
      · rintro ⟨a1, a2⟩
        refine ⟨by omega, h0.2, ?_⟩
        rw [getD_lt (by simp; omega), List.getElem_drop] at a2
        rw [getD_lt (by omega), ← a2]
        congr 1; omega
      · rintro ⟨a1, _, a2⟩
        refine ⟨by omega, ?_⟩
        rw [getD_lt (by omega)] at a2
        rw [getD_lt (by simp; omega), List.getElem_drop, ← a2]
        congr 1; omega
    have hcs : strings_CutSuffix 0 (q.drop 1) [39] = some (Go.Lib.trimSuffix (q.drop 1) [39], Go.Lib.hasSuffix (q.drop 1) [39]) := by
      unfold strings_CutSuffix
      have : Nat.ble (q.drop 1).length 9223372036854775807 = true := Nat.ble_eq_true_of_le (by simp; omega)
      rw [this]; rfl
    rw [hcs, bnd_some']
    dsimp only
    by_cases hp : quotedP q
    · have h2 := hp.1
      rw [if_pos hp]
      unfold Go.Lib.trimSuffix
      rw [hsuf, decide_eq_true hp, if_pos rfl, Bool.not_true, brF]
      have ei : (q.drop 1).take ((q.drop 1).length - [(39 : UInt8)].length) = innerOf q := by
        unfold innerOf
        rw [List.take_drop]
        congr 2
        simp; omega
      rw [ei]
      by_cases hm : (39 : UInt8) ∈ innerOf q
      · rw [day_bad' _ hm, bnd_some']
        cases hu : unq (innerOf q) with
        | none => exact same_rfl
        | some r =>
          dsimp only
          rw [Bool.not_true, brF, day_bad r (unq_quote _ _ r (Nat.le_refl _) hu hm), bnd_some']
          exact same_rfl
      · rw [unq_plain _ hm]
        dsimp only
        rw [Bool.not_true, brF]
        exact same_eta (readDaySame _)
    · rw [if_neg hp]
      rw [hsuf, decide_eq_false hp]
      exact same_rfl
  · rw [if_neg h0, if_neg (fun hp => h0 ⟨by have := hp.1; omega, hp.2.1⟩)]
    exact same_rfl
/-- a quoted text -/
theorem quoteSame (a : List UInt8) (h402 : a.length ≤ 402) (h0 : a.getD 0 0 = 39) (h1 : 1 ≤ a.length) :
    Same (bnd (F_spec_l01ReadQuoted a) (fun y3 => br (!y3.2) (some (((0 : Int), (0 : Int), (0 : Int), ([] : List UInt8), ()), 5)) (bnd (F_spec_l01Printable y3.1) (fun y4 => br (!y4) (some (((0 : Int), (0 : Int), (0 : Int), ([] : List UInt8), ()), 5)) (br (decide ((↑(List.length y3.1) : Int) > 200)) (some (((0 : Int), (0 : Int), (0 : Int), ([] : List UInt8), ()), 3)) (bnd (F_spec_l01Str y3.1) (fun y5 => some (y5, 0))))))))
      (br (decide ((↑(List.length a) : Int) < 2)) (some (((0 : Int), (0 : Int), (0 : Int), ([] : List UInt8), ()), 5)) (br (decide ((↑(List.length a) : Int) > 402)) (some (((0 : Int), (0 : Int), (0 : Int), ([] : List UInt8), ()), 5)) (br (decide (0 ≤ IntKind.i64.wrap ((↑(List.length a) : Int) - 1))) (br (decide (IntKind.i64.wrap ((↑(List.length a) : Int) - 1) < (↑(List.length a) : Int))) (br ((↑(List.getD a (IntKind.i64.wrap ((↑(List.length a) : Int) - 1)).toNat 0).toNat : Int) != 39) (some (((0 : Int), (0 : Int), (0 : Int), ([] : List UInt8), ()), 5)) (bnd (F_impl_printable a) (fun y3 => br (!y3) (some (((0 : Int), (0 : Int), (0 : Int), ([] : List UInt8), ()), 5)) (br (decide (0 ≤ 1)) (br (decide (1 ≤ IntKind.i64.wrap ((↑(List.length a) : Int) - 1))) (br (decide (IntKind.i64.wrap ((↑(List.length a) : Int) - 1) ≤ (↑(List.length a) : Int))) (bnd (strings_ReplaceAll 0 (List.drop (Int.toNat 1) (List.take (IntKind.i64.wrap ((↑(List.length a) : Int) - 1)).toNat a)) [39, 39] []) (fun y4 => bnd (strings_Contains 0 y4 [39]) (fun y5 => br (y5) (some (((0 : Int), (0 : Int), (0 : Int), ([] : List UInt8), ()), 5)) (bnd (strings_ReplaceAll 0 (List.drop (Int.toNat 1) (List.take (IntKind.i64.wrap ((↑(List.length a) : Int) - 1)).toNat a)) [39, 39] [39]) (fun y6 => br (decide ((↑(List.length y6) : Int) > 200)) (some (((0 : Int), (0 : Int), (0 : Int), ([] : List UInt8), ()), 3)) (some ((4, 0, 0, y6, ()), 0))))))) (none)) (none)) (none))))) (none)) (none)))) := by
  rw [specQuoted a (by omega), bnd_some']
  by_cases h2 : (a.length : Int) < 2
  · rw [br_pos h2, if_neg (fun h => by have := h.1; omega)]
    exact same_rfl
  · rw [br_neg h2, br_neg (show ¬ (a.length : Int) > 402 by omega), wrap_len a (by omega) (by omega), br_pos (show (0 : Int) ≤ ((a.length - 1 : Nat) : Int) by omega), br_pos (show ((a.length - 1 : Nat) : Int) < (a.length : Int) by omega), Int.toNat_natCast, bne39, beq_dec, not_dec]
    by_cases hl : a.getD (a.length - 1) 0 = 39
    · rw [br_neg (show ¬ ¬ a.getD (a.length - 1) 0 = 39 from fun h => h hl), if_pos (show quotedP a from ⟨by omega, h0, hl⟩)]
      have ein : List.drop (Int.toNat 1) (List.take (a.length - 1) a) = innerOf a := rfl
      rw [ein]
      have hil : (innerOf a).length = a.length - 2 := by unfold innerOf; simp; omega
      have hrep : ∀ new : List UInt8, new.length ≤ 1024 → strings_ReplaceAll 0 (innerOf a) [39, 39] new = some (Go.Lib.replaceAll (innerOf a) old2 new) := by
        intro new hn
        unfold strings_ReplaceAll
        have b1 : Nat.ble (innerOf a).length 16777216 = true := Nat.ble_eq_true_of_le (by omega)
        have b2 : Nat.ble new.length 1024 = true := Nat.ble_eq_true_of_le hn
        rw [b1, b2]; rfl
      obtain ⟨u1, u2⟩ := unq_rep (innerOf a).length (innerOf a) (Nat.le_refl _)
      have hpa : Prn a ↔ Prn (innerOf a) := by
        have p39 : prn 39 := by unfold prn; decide
        unfold Prn
        constructor
        · intro h c hc
          exact h c (List.mem_of_mem_take (List.mem_of_mem_drop hc))
        · intro h c hc
          obtain ⟨i, hi, rfl⟩ := List.getElem_of_mem hc
          by_cases i0 : i = 0
          · subst i0; rw [getD_lt hi] at h0; rw [h0]; exact p39
          · by_cases il : i = a.length - 1
            · subst il; rw [getD_lt hi] at hl; rw [hl]; exact p39
            · apply h
              unfold innerOf
              exact List.mem_drop_iff_getElem.2 ⟨i - 1, by simp; omega, by simp; congr 1; omega⟩
      have hip := implPrn a (by omega)
      by_cases hp : Prn a
      · rw [hip.1 hp, bnd_some', Bool.not_true, brF, br_pos (show 0 ≤ 1 by decide), br_pos (show (1 : Int) ≤ ((a.length - 1 : Nat) : Int) by omega), br_pos (show ((a.length - 1 : Nat) : Int) ≤ (a.length : Int) by omega), hrep [] (by simp), hrep [39] (by simp), bnd_some']
        have hct : strings_Contains 0 (Go.Lib.replaceAll (innerOf a) old2 []) [39] = some (decide ((39 : UInt8) ∈ Go.Lib.replaceAll (innerOf a) old2 [])) := by
          unfold strings_Contains
          rw [contains39]
          have hrl : (Go.Lib.replaceAll (innerOf a) old2 []).length ≤ (innerOf a).length := rep_len _ _ (Nat.le_refl _)
          have : Nat.blt (Go.Lib.replaceAll (innerOf a) old2 []).length 4294967281 = true := by rw [Nat.blt_eq]; omega
          rw [this]; rfl
        rw [hct, bnd_some']
        cases hu : unq (innerOf a) with
        | none =>
          rw [decide_eq_true (u1 hu)]
          exact same_rfl
        | some r =>
          obtain ⟨v1, v2⟩ := u2 r hu
          have hr : Prn r := (unq_all prn (by unfold prn; decide) _ _ r (Nat.le_refl _) hu).1 (hpa.1 hp)
          have hrl := unq_len _ _ r (Nat.le_refl _) hu
          rw [decide_eq_false v1]
          dsimp only
          rw [Bool.not_true, brF, brF, (specPrn r (by omega)).1 hr, bnd_some', Bool.not_true, brF, v2, bnd_some']
          exact same_br (fun _ => same_rfl) fun _ => same_rfl
      · rw [hip.2 hp, bnd_some', Bool.not_false, brT]
        cases hu : unq (innerOf a) with
        | none => exact same_rfl
        | some r =>
          have hr : ¬ Prn r := fun h => hp (hpa.2 ((unq_all prn (by unfold prn; decide) _ _ r (Nat.le_refl _) hu).2 h))
          have hrl := unq_len _ _ r (Nat.le_refl _) hu
          dsimp only
          rw [Bool.not_true, brF, (specPrn r (by omega)).2 hr, bnd_some', Bool.not_false, brT]
          exact same_rfl
    · rw [show (decide ¬ a.getD (a.length - 1) 0 = 39) = true from decide_eq_true hl, brT, if_neg (fun h => hl h.2.2)]
      exact same_rfl
end Go.Ev.T1
