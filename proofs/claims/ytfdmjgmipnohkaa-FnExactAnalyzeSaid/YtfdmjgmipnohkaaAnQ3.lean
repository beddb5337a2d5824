/- Analyze: comparing, both ways, is one order. -/
import Derived.Test.YtfdmjgmipnohkaaAnQ2
set_option linter.unusedSimpArgs false
set_option linter.unusedVariables false
set_option maxRecDepth 100000
namespace Go.Ev.T1
open Go Go.Proofs
/-- the class of a value -/
def cl (a : DValue) : Int := if a.1 = 3 then 2 else a.1
/-- two values of one class compared -/
def cv (a b : DValue) : Int := if a.1 = 4 then tc a.2.2.2.1 b.2.2.2.1 else sg (wt a) (wt b)
theorem sg_mul (a b : Int) : sg (a * 1000000) (b * 1000000) = sg a b := by
  unfold sg; (repeat' split) <;> omega
theorem specWeighed (s : List UInt8) : F_spec_l01Weighed ([], ()) s = some s := by
  unfold F_spec_l01Weighed; rfl
theorem implWeighed (s : List UInt8) : F_impl_weighed ([], ()) s = some s := by
  unfold F_impl_weighed; rfl
theorem specNumber (a : DValue) : F_spec_l01Number a = some (decide (Num a)) := by
  unfold F_spec_l01Number
  rw [beq_dec, beq_dec, br_if]
  by_cases h : a.1 = 2
  · rw [if_pos h, decide_eq_true (show Num a from Or.inl h)]
  · rw [if_neg h]
    by_cases h3 : a.1 = 3
    · rw [decide_eq_true h3, decide_eq_true (show Num a from Or.inr h3)]
    · rw [decide_eq_false h3, decide_eq_false (show ¬ Num a by unfold Num; omega)]
theorem implNumber (a : DValue) : F_impl_isNum a = some (decide (Num a)) := by
  unfold F_impl_isNum
  rw [beq_dec, beq_dec, br_if]
  by_cases h : a.1 = 2
  · rw [if_pos h, decide_eq_true (show Num a from Or.inl h)]
  · rw [if_neg h]
    by_cases h3 : a.1 = 3
    · rw [decide_eq_true h3, decide_eq_true (show Num a from Or.inr h3)]
    · rw [decide_eq_false h3, decide_eq_false (show ¬ Num a by unfold Num; omega)]
theorem cl_num {a b : DValue} (h : cl a = cl b) (ha : Num a) : Num b := by
  unfold cl at h; unfold Num at *; split at h <;> split at h <;> omega
theorem cl_four {a b : DValue} (h : cl a = cl b) (ha : a.1 = 4) : b.1 = 4 := by
  unfold cl at h; split at h <;> split at h <;> omega
theorem cl_rest {a b : DValue} (h : cl a = cl b) (ha : ¬ Num a) : b.1 = a.1 := by
  unfold cl at h; unfold Num at *; split at h <;> split at h <;> omega
/-- neither number nor text: its weight is its number, a million times -/
theorem wt_rest {a : DValue} (hv : VOK a) (h3 : ¬ a.1 = 3) : wt a = a.2.1 * 1000000 := by
  have : a.2.2.1 = 0 := by unfold VOK at hv; omega
  unfold wt; rw [this]; rfl
theorem specCmp (a b : DValue) (ha : VOK a) (hb : VOK b) (na : ¬ a.1 = 0) (nb : ¬ b.1 = 0) (h : cl a = cl b) : F_spec_l01Cmp ([], ()) a b = some (cv a b) := by
  unfold F_spec_l01Cmp cv
  rw [beq_dec, br_neg na, beq_dec, br_neg nb, beq_dec, br_if]
  by_cases h4 : a.1 = 4
  · rw [if_pos h4, if_pos h4, specWeighed, bnd_some', specWeighed, bnd_some', specOrder]; rfl
  · rw [if_neg h4, if_neg h4, specNumber, bnd_some', br_if]
    by_cases hn : Num a
    · rw [if_pos hn]
      obtain ⟨w, x, e, hw, x0, x1⟩ := specSplit a ha hn
      obtain ⟨y, z, e', hy, z0, z1⟩ := specSplit b hb (cl_num h hn)
      rw [e, bnd_some', e', bnd_some']
      dsimp only
      rw [bne_dec, br_if, specSign, specSign]
      have hd : (if ¬ w = y then bnd (some (sg w y)) fun y4 => some y4 else bnd (some (sg x z)) fun y4 => some y4) = if ¬ w = y then some (sg w y) else some (sg x z) := by split <;> rfl
      first
      | rw [hd]
      | skip
      rw [← hw, ← hy]
      unfold sg
      (repeat' split) <;> first | rfl | (congr 1; omega) | omega
    · rw [if_neg hn, specSign]
      have hb1 := cl_rest h hn
      rw [wt_rest ha (by unfold Num at hn; omega), wt_rest hb (by unfold Num at hn; omega), sg_mul]; rfl
theorem implCmpNum (a b : DValue) (ha : VOK a) (hb : VOK b) (na : Num a) (nb : Num b) : F_impl_cmpNum a b = some (sg (wt a) (wt b)) := by
  obtain ⟨k, n, c, s, u⟩ := a
  obtain ⟨k', n', c', s', u'⟩ := b
  unfold Num at na nb
  unfold VOK at ha hb
  dsimp only at ha hb na nb
  have hw : ∀ (n c : Int), -1000000000 ≤ n → n ≤ 1000000000 → 0 ≤ c → c ≤ 6 → -1000000000000000 ≤ n * pw c ∧ n * pw c ≤ 1000000000000000 := by
    intro n c h1 h2 h3 h4
    rcases scales h3 h4 with rfl | rfl | rfl | rfl | rfl | rfl | rfl
    · show _ ≤ n * 1000000 ∧ n * 1000000 ≤ _; omega
    · show _ ≤ n * 100000 ∧ n * 100000 ≤ _; omega
    · show _ ≤ n * 10000 ∧ n * 10000 ≤ _; omega
    · show _ ≤ n * 1000 ∧ n * 1000 ≤ _; omega
    · show _ ≤ n * 100 ∧ n * 100 ≤ _; omega
    · show _ ≤ n * 10 ∧ n * 10 ≤ _; omega
    · show _ ≤ n * 1 ∧ n * 1 ≤ _; omega
  have p0 : pw 0 = 1000000 := rfl
  have fin : ∀ (n n' c c' : Int), -1000000000 ≤ n → n ≤ 1000000000 → 0 ≤ c → c ≤ 6 → -1000000000 ≤ n' → n' ≤ 1000000000 → 0 ≤ c' → c' ≤ 6 →
      (bnd (F_impl_p10 (IntKind.i64.wrap (6 - c))) (fun y7 => bnd (F_impl_p10 (IntKind.i64.wrap (6 - c'))) (fun y8 => bnd (F_impl_cmpInt (IntKind.i64.wrap (n * y7)) (IntKind.i64.wrap (n' * y8))) (fun y9 => some y9)))) = some (sg (n * pw c) (n' * pw c')) := by
    intro n n' c c' a1 a2 a3 a4 b1 b2 b3 b4
    have h := hw n c a1 a2 a3 a4
    have h' := hw n' c' b1 b2 b3 b4
    rw [implP10 a3 a4, bnd_some', implP10 b3 b4, bnd_some', wrap_eq (by omega) (by omega), wrap_eq (by omega) (by omega), implSign]; rfl
  unfold F_impl_cmpNum wt
  dsimp only
  simp only [beq_dec]
  by_cases h2 : k = 2
  · have hc : c = 0 := by omega
    subst h2 hc
    rw [br_pos rfl]
    by_cases h2' : k' = 2
    · have hc' : c' = 0 := by omega
      subst h2' hc'
      rw [br_pos rfl, implSign, bnd_some', bnd_some', p0, sg_mul]; rfl
    · rw [br_neg h2', bnd_some']
      show bnd _ _ = _
      have h3' : -1000000000 ≤ n' ∧ n' ≤ 1000000000 ∧ 0 ≤ c' ∧ c' ≤ 6 := by omega
      have hw' := hw n' c' h3'.1 h3'.2.1 h3'.2.2.1 h3'.2.2.2
      dsimp only
      rw [br_pos rfl]
      by_cases g : n > 1000000000
      · rw [br_pos g, bnd_some']
        show some 1 = _
        unfold sg; rw [p0, if_neg (by omega), if_pos (by omega)]
      · rw [br_neg g, br_neg h2', bnd_some']
        show bnd _ _ = _
        dsimp only
        rw [br_pos rfl]
        by_cases g' : n < -1000000000
        · rw [br_pos g', bnd_some']
          show some (-1) = _
          unfold sg; rw [p0, if_pos (by omega)]
        · rw [br_neg g', br_neg h2', bnd_some']
          exact fin n n' 0 c' (by omega) (by omega) (by omega) (by omega) (by omega) (by omega) (by omega) (by omega)
  · have h3 : -1000000000 ≤ n ∧ n ≤ 1000000000 ∧ 0 ≤ c ∧ c ≤ 6 := by omega
    have hw1 := hw n c h3.1 h3.2.1 h3.2.2.1 h3.2.2.2
    rw [br_neg h2, bnd_some']
    show bnd _ _ = _
    dsimp only
    rw [br_neg h2]
    by_cases h2' : k' = 2
    · have hc' : c' = 0 := by omega
      subst h2' hc'
      rw [br_pos rfl]
      by_cases g : n' < -1000000000
      · rw [br_pos g, bnd_some']
        show some 1 = _
        unfold sg; rw [p0, if_neg (by omega), if_pos (by omega)]
      · rw [br_neg g, bnd_some']
        show bnd _ _ = _
        dsimp only
        rw [br_neg h2, br_pos rfl]
        by_cases g' : n' > 1000000000
        · rw [br_pos g', bnd_some']
          show some (-1) = _
          unfold sg; rw [p0, if_pos (by omega)]
        · rw [br_neg g', bnd_some']
          exact fin n n' c 0 (by omega) (by omega) (by omega) (by omega) (by omega) (by omega) (by omega) (by omega)
    · rw [br_neg h2', bnd_some']
      show bnd _ _ = _
      dsimp only
      rw [br_neg h2, br_neg h2', bnd_some']
      have h3' : -1000000000 ≤ n' ∧ n' ≤ 1000000000 ∧ 0 ≤ c' ∧ c' ≤ 6 := by omega
      exact fin n n' c c' (by omega) (by omega) (by omega) (by omega) (by omega) (by omega) (by omega) (by omega)
theorem VOK.len {a : DValue} (h : VOK a) : a.2.2.2.1.length ≤ 1048576 := by
  unfold VOK at h
  rcases h with h | h | h | h | h | h
  · rw [h.2.2.2]; decide
  · rw [h.2.2.2.2]; decide
  · rw [h.2.2.2.2]; decide
  · rw [h.2.2.2.2.2.2]; decide
  · omega
  · rw [h.2.2.2.2]; decide
theorem implCompare (a b : DValue) (ha : VOK a) (hb : VOK b) (na : ¬ a.1 = 0) (nb : ¬ b.1 = 0) :
    F_impl_Compare ([], ()) a b = some (if cl a = cl b then (cv a b, 0) else (0, 2)) := by
  have e0 : F_impl_CollOK ([], ()) = some true := by unfold F_impl_CollOK; rfl
  unfold F_impl_Compare cv
  simp only [e0, bnd_some', Bool.not_true, br_false, (implValue a ha.len).1 ha, (implValue b hb.len).1 hb]
  rw [beq_dec, br_neg na, beq_dec, br_neg nb, implNumber, bnd_some', br_if]
  by_cases hn : Num a
  · rw [if_pos hn, implNumber, bnd_some', br_if]
    have h4 : ¬ a.1 = 4 := by unfold Num at hn; omega
    by_cases hn' : Num b
    · rw [if_pos hn', implCmpNum a b ha hb hn hn', bnd_some', if_neg h4, if_pos]
      unfold cl Num at *; split <;> split <;> omega
    · rw [if_neg hn', bne_dec, br_pos (by unfold Num at hn hn'; omega), if_neg (fun h => hn' (cl_num h hn))]
  · rw [if_neg hn, bne_dec]
    by_cases he : a.1 = b.1
    · have hcl : cl a = cl b := by unfold cl; rw [he]
      rw [br_neg (by omega), beq_dec, br_if, if_pos hcl]
      by_cases h4 : a.1 = 4
      · rw [if_pos h4, if_pos h4, implWeighed, bnd_some', implWeighed, bnd_some']
        unfold strings_Compare
        rw [bnd_some', cmpBytes]
      · rw [if_neg h4, if_neg h4, implSign, bnd_some', wt_rest ha (by unfold Num at hn; omega), wt_rest hb (by unfold Num at hn; omega), sg_mul]
    · rw [br_pos (by omega), if_neg]
      intro h; exact he (cl_rest h hn).symm
theorem implKCompare (a b : DValue) (ha : VOK a) (hb : VOK b) (na : ¬ a.1 = 0) (nb : ¬ b.1 = 0) (h : cl a = cl b) : F_impl_kCompare a b = some (cv a b) := by
  unfold F_impl_kCompare
  rw [implCompare a b ha hb na nb, if_pos h, bnd_some']; rfl
end Go.Ev.T1
