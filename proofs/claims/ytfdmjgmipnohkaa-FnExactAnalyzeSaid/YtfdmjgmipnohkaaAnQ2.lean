/- Analyze: how two values are compared: the reference's way and the program's. -/
import Derived.Test.YtfdmjgmipnohkaaAnQ1
import Derived.Lib.Bytealg
set_option linter.unusedSimpArgs false
set_option linter.unusedVariables false
set_option maxRecDepth 100000
namespace Go.Ev.T1
open Go Go.Proofs
theorem tdm (n p : Int) (hp : 0 < p) : n.tdiv p * p + n.tmod p = n ∧ -p < n.tmod p ∧ n.tmod p < p := by
  refine ⟨?_, ?_, Int.tmod_lt_of_pos n hp⟩
  · rw [Int.mul_comm]; exact Int.mul_tdiv_add_tmod n p
  · by_cases h : 0 ≤ n
    · have := Int.tmod_nonneg p h; omega
    · have := Int.tmod_lt_of_pos (-n) hp
      rw [Int.neg_tmod] at this; omega
def sg (a b : Int) : Int := if a < b then -1 else if a > b then 1 else 0
theorem specSign (a b : Int) : F_spec_l01Sign a b = some (sg a b) := by
  unfold F_spec_l01Sign sg; rw [br_if, br_if]; split
  · rfl
  · split <;> rfl
theorem implSign (a b : Int) : F_impl_cmpInt a b = some (sg a b) := by
  unfold F_impl_cmpInt sg; rw [br_if, br_if]; split
  · rfl
  · split <;> rfl
/-- ten to the rest of the scale -/
def pw (c : Int) : Int := if c = 0 then 1000000 else if c = 1 then 100000 else if c = 2 then 10000 else if c = 3 then 1000 else if c = 4 then 100 else if c = 5 then 10 else 1
/-- a number's weight -/
def wt (a : DValue) : Int := a.2.1 * pw a.2.2.1
theorem scales {c : Int} (h0 : 0 ≤ c) (h6 : c ≤ 6) : c = 0 ∨ c = 1 ∨ c = 2 ∨ c = 3 ∨ c = 4 ∨ c = 5 ∨ c = 6 := by omega
theorem implP10 {c : Int} (h0 : 0 ≤ c) (h6 : c ≤ 6) : F_impl_p10 (IntKind.i64.wrap (6 - c)) = some (pw c) := by
  rcases scales h0 h6 with rfl | rfl | rfl | rfl | rfl | rfl | rfl <;> kernel_rfl
def Num (a : DValue) : Prop := a.1 = 2 ∨ a.1 = 3
instance (a : DValue) : Decidable (Num a) := by unfold Num; infer_instance
theorem split_ok (k n c : Int) (s : List UInt8) (p q : Int) (h3 : ¬ k = 2) (hp : 0 < p) (hp6 : p ≤ 1000000) (hn : -1000000000 ≤ n ∧ n ≤ 1000000000) (hq : p * q = 1000000) (hq0 : 0 < q) (hq6 : q ≤ 1000000)
    (e1 : F_spec_l01Power c = some p) (e2 : F_spec_l01Power (IntKind.i64.wrap (6 - c)) = some q) :
    ∃ w x, F_spec_l01Split (k, n, c, s, ()) = some (w, x) ∧ w * 1000000 + x = n * q ∧ 0 ≤ x ∧ x < 1000000 := by
  obtain ⟨d1, d2, d3⟩ := tdm n p hp
  have b1 : -1000000000 ≤ n.tdiv p ∧ n.tdiv p ≤ 1000000000 := by
    generalize n.tdiv p = y at d1
    generalize n.tmod p = r at d1 d2 d3
    constructor
    · by_cases h : -1000000000 ≤ y
      · exact h
      · exfalso
        have : y * p ≤ (-1000000001) * p := Int.mul_le_mul_of_nonneg_right (by omega) (by omega)
        omega
    · by_cases h : y ≤ 1000000000
      · exact h
      · exfalso
        have : 1000000001 * p ≤ y * p := Int.mul_le_mul_of_nonneg_right (by omega) (by omega)
        omega
  have key : ∀ y r : Int, y * p + r = n → 0 ≤ r → r < p → y * 1000000 + r * q = n * q ∧ 0 ≤ r * q ∧ r * q < 1000000 := by
    intro y r h h0 hl
    refine ⟨?_, Int.mul_nonneg h0 (by omega), ?_⟩
    · rw [← h, Int.add_mul, Int.mul_assoc, hq]
    · have : r * q < p * q := Int.mul_lt_mul_of_pos_right hl hq0
      omega
  unfold F_spec_l01Split
  dsimp only
  rw [beq_dec, br_neg h3, e1, bnd_some']
  have hb : (!p == 0) = true := by simp; omega
  rw [hb, br_true, br_true]
  by_cases hr : n.tmod p < 0
  · rw [br_pos hr, bnd_some']
    dsimp only
    rw [e2, bnd_some']
    obtain ⟨k1, k2, k3⟩ := key (n.tdiv p - 1) (n.tmod p + p) (by rw [Int.sub_mul]; omega) (by omega) (by omega)
    rw [wrap_eq (x := n.tdiv p) (by omega) (by omega), wrap_eq (x := n.tdiv p - 1) (by omega) (by omega), wrap_eq (x := n.tmod p + p) (by omega) (by omega)]
    generalize (n.tmod p + p) * q = X at k1 k2 k3 ⊢
    rw [wrap_eq (x := X) (by omega) (by omega)]
    exact ⟨_, _, rfl, k1, k2, k3⟩
  · rw [br_neg hr, bnd_some']
    dsimp only
    rw [e2, bnd_some']
    obtain ⟨k1, k2, k3⟩ := key (n.tdiv p) (n.tmod p) d1 (by omega) (by omega)
    rw [wrap_eq (x := n.tdiv p) (by omega) (by omega)]
    generalize n.tmod p * q = X at k1 k2 k3 ⊢
    rw [wrap_eq (x := X) (by omega) (by omega)]
    exact ⟨_, _, rfl, k1, k2, k3⟩
theorem specSplit (a : DValue) (hv : VOK a) (hn : Num a) : ∃ w x, F_spec_l01Split a = some (w, x) ∧ w * 1000000 + x = wt a ∧ 0 ≤ x ∧ x < 1000000 := by
  obtain ⟨k, n, c, s, u⟩ := a
  unfold Num at hn
  unfold VOK at hv
  dsimp only at hn hv
  unfold wt
  dsimp only
  by_cases h2 : k = 2
  · subst h2
    have hc : c = 0 := by omega
    subst hc
    refine ⟨n, 0, ?_, ?_, by omega, by omega⟩
    · unfold F_spec_l01Split; rfl
    · have : pw 0 = 1000000 := rfl
      rw [this]; omega
  · have h3 : k = 3 := by omega
    have hh : -1000000000 ≤ n ∧ n ≤ 1000000000 ∧ 0 ≤ c ∧ c ≤ 6 := by omega
    rcases scales hh.2.2.1 hh.2.2.2 with rfl | rfl | rfl | rfl | rfl | rfl | rfl
    · exact split_ok k n 0 s 1 1000000 h2 (by omega) (by omega) (by omega) (by omega) (by omega) (by omega) (by kernel_rfl) (by kernel_rfl)
    · exact split_ok k n 1 s 10 100000 h2 (by omega) (by omega) (by omega) (by omega) (by omega) (by omega) (by kernel_rfl) (by kernel_rfl)
    · exact split_ok k n 2 s 100 10000 h2 (by omega) (by omega) (by omega) (by omega) (by omega) (by omega) (by kernel_rfl) (by kernel_rfl)
    · exact split_ok k n 3 s 1000 1000 h2 (by omega) (by omega) (by omega) (by omega) (by omega) (by omega) (by kernel_rfl) (by kernel_rfl)
    · exact split_ok k n 4 s 10000 100 h2 (by omega) (by omega) (by omega) (by omega) (by omega) (by omega) (by kernel_rfl) (by kernel_rfl)
    · exact split_ok k n 5 s 100000 10 h2 (by omega) (by omega) (by omega) (by omega) (by omega) (by omega) (by kernel_rfl) (by kernel_rfl)
    · exact split_ok k n 6 s 1000000 1 h2 (by omega) (by omega) (by omega) (by omega) (by omega) (by omega) (by kernel_rfl) (by kernel_rfl)
/-- texts compared -/
def tc (x y : List UInt8) : Int := if Op.bytesLess x y = true then -1 else if Op.bytesLess y x = true then 1 else 0
theorem lt_asymm : ∀ x y : List UInt8, Op.bytesLess x y = true → Op.bytesLess y x = false
  | [], [], h => by simp [Op.bytesLess] at h
  | [], _ :: _, _ => by simp [Op.bytesLess]
  | _ :: _, [], h => by simp [Op.bytesLess] at h
  | a :: x, b :: y, h => by
    simp only [Op.bytesLess, Bool.or_eq_true, decide_eq_true_eq, Bool.and_eq_true, beq_iff_eq] at h
    simp only [Op.bytesLess, Bool.or_eq_false_iff, decide_eq_false_iff_not, Bool.and_eq_false_iff]
    rcases h with h | ⟨rfl, h⟩
    · refine ⟨fun h' => absurd h (UInt8.lt_asymm h'), .inl ?_⟩
      simp only [beq_eq_false_iff_ne, ne_eq]
      rintro rfl; exact UInt8.lt_irrefl _ h
    · exact ⟨UInt8.lt_irrefl _, .inr (lt_asymm x y h)⟩
theorem lt_irr (x : List UInt8) : Op.bytesLess x x = false := by
  cases h : Op.bytesLess x x with
  | false => rfl
  | true => have h' := lt_asymm x x h; rw [h] at h'; exact h'
theorem lt_tri : ∀ x y : List UInt8, Op.bytesLess x y = false → Op.bytesLess y x = false → x = y
  | [], [], _, _ => rfl
  | [], _ :: _, h, _ => by simp [Op.bytesLess] at h
  | _ :: _, [], _, h => by simp [Op.bytesLess] at h
  | a :: x, b :: y, h, h' => by
    simp only [Op.bytesLess, Bool.or_eq_false_iff, decide_eq_false_iff_not, Bool.and_eq_false_iff] at h h'
    have e : a = b := by
      rcases Nat.lt_trichotomy a.toNat b.toNat with g | g | g
      · exact absurd (UInt8.lt_iff_toNat_lt.2 g) h.1
      · exact UInt8.toNat_inj.1 g
      · exact absurd (UInt8.lt_iff_toNat_lt.2 g) h'.1
    subst e
    simp only [beq_self_eq_true, Bool.true_eq_false, false_or] at h h'
    rw [lt_tri x y h.2 h'.2]
theorem specOrder (x y : List UInt8) : F_spec_l01Order x y = some (tc x y) := by
  unfold F_spec_l01Order tc
  cases h : Op.bytesLess x y with
  | true => simp only [if_true, br_true]
  | false =>
    rw [br_false, if_neg (by simp)]
    cases h' : Op.bytesLess y x with
    | true =>
      rw [if_pos rfl]
      have : (x == y) = false := by
        simp only [beq_eq_false_iff_ne, ne_eq]; rintro rfl; rw [lt_irr] at h'; cases h'
      rw [this]; rfl
    | false =>
      rw [if_neg (by simp), lt_tri x y h h']
      simp only [beq_self_eq_true]; rfl
theorem cmpBytes : ∀ x y : List UInt8, Go.Lib.compareBytes x y = tc x y
  | [], [] => rfl
  | [], _ :: _ => rfl
  | _ :: _, [] => rfl
  | a :: x, b :: y => by
    have ih := cmpBytes x y
    unfold tc at ih ⊢
    simp only [Go.Lib.compareBytes, Op.bytesLess, Bool.or_eq_true, decide_eq_true_eq, Bool.and_eq_true, beq_iff_eq]
    by_cases h : a < b
    · simp [h]
    · by_cases h' : b < a
      · have : ¬ a = b := by rintro rfl; exact h h'
        simp [h, h', this]
      · have e : a = b := by
          rcases Nat.lt_trichotomy a.toNat b.toNat with g | g | g
          · exact absurd (UInt8.lt_iff_toNat_lt.2 g) h
          · exact UInt8.toNat_inj.1 g
          · exact absurd (UInt8.lt_iff_toNat_lt.2 g) h'
        subst e
        simp only [h, if_false, true_and, false_or]
        exact ih
end Go.Ev.T1
