/- Numbers as text: what they say. -/
import Derived.Test.YthcpfdomggaaaaaGreatDoorRvQ2
set_option linter.unusedSimpArgs false
set_option linter.unusedVariables false
set_option maxRecDepth 100000
namespace Go.Ev.T1
open Go Go.Proofs
theorem assoc_bnd {α β γ : Type} (m : Option α) (f : α → Option β) (g : β → Option γ) : bnd m (fun x => bnd (f x) g) = bnd (bnd m f) g := by cases m <;> rfl
def isDot (c : UInt8) : Bool := c == 46
theorem isDot_iff (c : UInt8) : isDot c = true ↔ c = 46 := by simp [isDot]
theorem u8_eqN (c : UInt8) (n : Nat) (hn : n < 256) : (((c.toNat : Nat) : Int) == (n : Int)) = (c == UInt8.ofNat n) := by
  rw [beq_dec, beq_dec, decide_eq_decide]
  constructor
  · intro h
    apply UInt8.toNat_inj.1
    rw [UInt8.toNat_ofNat', Nat.mod_eq_of_lt (by simpa using hn)]
    omega
  · rintro rfl
    rw [UInt8.toNat_ofNat', Nat.mod_eq_of_lt (by simpa using hn)]
theorem specDot (t : List UInt8) (ht : t.length ≤ 1048576) (v : DValue) (neg : Bool) : F_spec_l01ReadNumber_l0 t v neg (-1) 0 = some (t, v, neg, idx isDot t) := by
  unfold F_spec_l01ReadNumber_l0
  have key := loop_run (B := B_spec_l01ReadNumber_l0) (fun i => (t, v, neg, (if t.findIdx isDot < i then ((t.findIdx isDot : Nat) : Int) else -1), ((i : Nat) : Int))) t.length (some (t, v, neg, idx isDot t)) (fun i C hi => ?_) (fun C => ?_) (((t.length : Nat) : Int).toNat + 1) 0 (Nat.zero_le _) (by simp)
  · exact key
  · unfold B_spec_l01ReadNumber_l0
    simp (disch := omega) only [wrap_succ, Int.toNat_natCast]
    rw [br_pos (by omega), br_pos (by omega), br_pos (by omega), show ((((t.getD i 0).toNat : Nat) : Int) == 46) = isDot (t.getD i 0) from u8_eqN _ 46 (by decide)]
    cases hd : isDot (t.getD i 0) with
    | true =>
      rw [brT]
      have hle : t.findIdx isDot ≤ i := by
        rcases Nat.lt_or_ge i (t.findIdx isDot) with h | h
        · have := List.not_of_lt_findIdx h
          rw [getD_lt hi] at hd
          rw [hd] at this; cases this
        · exact h
      by_cases hlt : t.findIdx isDot < i
      · rw [if_pos hlt, br_neg (by omega), if_pos (by omega)]
      · rw [if_neg hlt, br_pos (by omega), if_pos (by omega), show t.findIdx isDot = i by omega]
    | false =>
      rw [brF]
      have hne : t.findIdx isDot ≠ i := by
        intro he
        have hlt : t.findIdx isDot < t.length := by omega
        have := List.findIdx_getElem (w := hlt) (p := isDot)
        rw [getD_lt hi] at hd
        simp only [he] at this
        rw [hd] at this; cases this
      by_cases hlt : t.findIdx isDot < i
      · rw [if_pos hlt, if_pos (by omega)]
      · rw [if_neg hlt, if_neg (by omega)]
  · unfold B_spec_l01ReadNumber_l0
    rw [br_neg (by simp)]
    rfl
theorem indexByte_idx : ∀ (t : List UInt8), Go.Lib.indexByte t 46 = idx isDot t
  | [] => rfl
  | b :: l => by
    have ih := indexByte_idx l
    unfold Go.Lib.indexByte
    rw [ih]
    by_cases hb : isDot b = true
    · have : b = 46 := (isDot_iff b).1 hb
      subst this
      have e : (46 :: l).findIdx isDot = 0 := by rw [List.findIdx_cons, hb]; rfl
      unfold idx
      rw [e]
      simp
    · have hb' : (b == 46) = false := by simpa [isDot] using hb
      have hb2 : isDot b = false := by simpa using hb
      have e : (b :: l).findIdx isDot = l.findIdx isDot + 1 := by rw [List.findIdx_cons, hb2]; rfl
      rw [hb', if_neg (by decide)]
      unfold idx
      rw [e, List.length_cons]
      by_cases hl : l.findIdx isDot < l.length
      · rw [if_pos hl, if_pos (show l.findIdx isDot + 1 < l.length + 1 by omega), beq_dec, if_neg (show ¬ decide (((l.findIdx isDot : Nat) : Int) = -1) = true by rw [decide_eq_true_iff]; omega)]
        rfl
      · rw [if_neg hl, if_neg (show ¬ l.findIdx isDot + 1 < l.length + 1 by omega)]
        rfl
theorem cut_eq (t : List UInt8) (ht : t.length ≤ 1048576) : strings_Cut 0 t [46] = some (if 0 ≤ idx isDot t then (t.take (idx isDot t).toNat, t.drop ((idx isDot t).toNat + 1), true) else (t, [], false)) := by
  unfold strings_Cut
  have hb : Nat.blt t.length 4294967281 = true := by rw [Nat.blt_eq]; omega
  rw [hb]
  show some _ = _
  unfold Go.Lib.cut
  rw [Go.Lib.index_one, indexByte_idx]
  split <;> rfl
/-- ten to the k -/
theorem specPow (k : Nat) (hk : k ≤ 6) : F_spec_l01Power (k : Int) = some (((10 ^ k : Nat) : Int)) := by
  unfold F_spec_l01Power F_spec_l01Power_l0
  have key := loop_run (B := B_spec_l01Power_l0) (fun i => ((k : Int), ((10 ^ i : Nat) : Int), ((i : Nat) : Int))) k (some (((10 ^ k : Nat) : Int))) (fun i C hi => ?_) (fun C => ?_) (((k : Nat) : Int).toNat + 1) 0 (Nat.zero_le _) (by simp)
  · exact bnd_eq key
  · unfold B_spec_l01Power_l0
    have hp : 10 ^ i ≤ 10 ^ 6 := Nat.pow_le_pow_right (by decide) (by omega)
    simp (disch := omega) only [wrap_succ]
    rw [Nat.pow_succ]
    generalize 10 ^ i = q at hp ⊢
    rw [br_pos (by omega), wrap_eq (by omega) (by omega), Int.natCast_mul]; rfl
  · unfold B_spec_l01Power_l0
    rw [br_neg (by simp)]
theorem implPow (k : Nat) (hk : k ≤ 6) : F_impl_p10 (k : Int) = some (((10 ^ k : Nat) : Int)) := by
  unfold F_impl_p10 F_impl_p10_l0
  have key := loop_run (B := B_impl_p10_l0) (fun i => (((k - i : Nat) : Int), ((10 ^ i : Nat) : Int))) k (some (((10 ^ k : Nat) : Int))) (fun i C hi => ?_) (fun C => ?_) (((k : Nat) : Int).toNat + 1) 0 (Nat.zero_le _) (by simp)
  · exact bnd_eq key
  · unfold B_impl_p10_l0
    have hp : 10 ^ i ≤ 10 ^ 6 := Nat.pow_le_pow_right (by decide) (by omega)
    rw [br_pos (by show ((k - i : Nat) : Int) > 0; omega)]
    show C (IntKind.i64.wrap (((k - i : Nat) : Int) - 1), IntKind.i64.wrap (((10 ^ i : Nat) : Int) * 10)) = _
    rw [Nat.pow_succ]
    generalize 10 ^ i = q at hp ⊢
    rw [wrap_eq (by omega) (by omega), wrap_eq (by omega) (by omega), Int.natCast_mul]
    congr 2
    omega
  · unfold B_impl_p10_l0
    rw [br_neg (by show ¬ ((k - k : Nat) : Int) > 0; omega)]
/-- a number with its places, of which the last isn't 0 -/
theorem implDec (n : Int) (k : Nat) (hn : -9000000000000000000 ≤ n ∧ n ≤ 9000000000000000000) (h : 0 < k → ¬ n.tmod 10 = 0) :
    F_impl_decOf n k = some (if -1000000000 ≤ n ∧ n ≤ 1000000000 then (((3 : Int), n, (k : Int), ([] : List UInt8), ()), 0) else (((0 : Int), (0 : Int), (0 : Int), ([] : List UInt8), ()), 3)) := by
  have key : F_impl_decOf_l0 n k ((0 : Int), (0 : Int), (0 : Int), ([] : List UInt8), ()) = some (n, (k : Int), ((0 : Int), (0 : Int), (0 : Int), ([] : List UInt8), ())) := by
    unfold F_impl_decOf_l0
    simp only [forG]
    generalize forG B_impl_decOf_l0 _ = C
    unfold B_impl_decOf_l0
    have e10 : (!10 == 0) = true := by decide
    by_cases hk : 0 < k
    · rw [br_pos (show ((k : Nat) : Int) > 0 by omega), e10, brT, beq_dec, br_neg (h hk)]
    · rw [br_neg (show ¬ ((k : Nat) : Int) > 0 by omega)]
  unfold F_impl_decOf
  rw [bnd_eq key]
  show br (decide (n < -1000000000)) _ (br (decide (n > 1000000000)) _ _) = _
  by_cases h1 : n < -1000000000
  · rw [br_pos h1, if_neg (by omega)]
  · rw [br_neg h1]
    by_cases h2 : n > 1000000000
    · rw [br_pos h2, if_neg (by omega)]
    · rw [br_neg h2, if_pos (by omega)]
theorem implInt (n : Int) : F_impl_intOf n = some (if -1000000000000000 ≤ n ∧ n ≤ 1000000000000000 then (((2 : Int), n, (0 : Int), ([] : List UInt8), ()), 0) else (((0 : Int), (0 : Int), (0 : Int), ([] : List UInt8), ()), 3)) := by
  unfold F_impl_intOf
  by_cases h1 : n < -1000000000000000
  · rw [br_pos h1, if_neg (by omega)]
  · rw [br_neg h1]
    by_cases h2 : n > 1000000000000000
    · rw [br_pos h2, if_neg (by omega)]
    · rw [br_neg h2, if_pos (by omega)]
theorem okInt (n : Int) : F_spec_ValueOK ((2 : Int), n, (0 : Int), ([] : List UInt8), ()) = some (decide (-1000000000000000 ≤ n ∧ n ≤ 1000000000000000)) := by
  unfold F_spec_ValueOK
  show br (decide (n ≥ -1000000000000000)) (some (decide (n ≤ 1000000000000000))) (some false) = _
  by_cases h1 : n ≥ -1000000000000000
  · rw [br_pos h1]; congr 1; rw [decide_eq_decide]; omega
  · rw [br_neg h1]; congr 1; symm; rw [decide_eq_false_iff_not]; omega
theorem okDec (n : Int) (k : Nat) (hk : k ≤ 6) (h : 0 < k → ¬ n.tmod 10 = 0) : F_spec_ValueOK ((3 : Int), n, (k : Int), ([] : List UInt8), ()) = some (decide (-1000000000 ≤ n ∧ n ≤ 1000000000)) := by
  unfold F_spec_ValueOK
  show br (decide (n ≥ -1000000000)) (br (decide (n ≤ 1000000000)) (br (decide ((k : Int) ≥ 0)) (br (decide ((k : Int) ≤ 6)) (br ((k : Int) == 0) (some true) (br (!10 == 0) (some (Int.tmod n 10 != 0)) none)) (some false)) (some false)) (some false)) (some false) = _
  have e10 : (!10 == 0) = true := by decide
  by_cases h1 : n ≥ -1000000000
  · rw [br_pos h1]
    by_cases h2 : n ≤ 1000000000
    · rw [br_pos h2, br_pos (by omega), br_pos (by omega), e10, brT, beq_dec, bne_dec, decide_eq_true (show -1000000000 ≤ n ∧ n ≤ 1000000000 from ⟨h1, h2⟩)]
      by_cases h3 : (k : Int) = 0
      · rw [br_pos h3]
      · rw [br_neg h3, decide_eq_true (h (by omega))]
    · rw [br_neg h2]; congr 1; symm; rw [decide_eq_false_iff_not]; omega
  · rw [br_neg h1]; congr 1; symm; rw [decide_eq_false_iff_not]; omega
end Go.Ev.T1
