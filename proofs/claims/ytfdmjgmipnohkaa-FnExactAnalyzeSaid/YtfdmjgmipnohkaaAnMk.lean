/- Marks: what is marked is held. -/
import Derived.Test.YtfdmjgmipnohkaaAnSz
import Derived.Test.YtfdmjgmipnohkaaAnEvH
set_option linter.unusedSimpArgs false
set_option linter.unusedVariables false
namespace Go.Ev.T1
open Go Go.Proofs
theorem mk_text (k : Int) (h0 : 0 ≤ k) (hk : k ≤ 9000000000000000000) : ∃ t, F_laws_markText k = some t := by
  unfold F_laws_markText
  by_cases h : k ≤ 0
  · exact ⟨_, br_pos h _ _⟩
  rw [br_neg h]
  unfold F_laws_markText_l0
  obtain ⟨t, e, g⟩ := text_loop (B := B_laws_markText_l0) (fun k => UInt8.ofNat (IntKind.u8.wrap (IntKind.i64.wrap (48 + Int.tmod k 10))).toNat) (fun k s C hk hk2 hs => by
      unfold B_laws_markText_l0
      have hd : k.tdiv 10 = k / 10 := Int.tdiv_eq_ediv_of_nonneg (by omega)
      simp only
      rw [br_pos (show k > 0 by omega), not10, br_true, br_pos (by simp only [List.length_map, List.length_cons, List.length_nil, capN]; omega), br_true]
      rw [wrap_eq (x := k.tdiv 10) (by rw [hd]; omega) (by rw [hd]; omega)]
      rfl) (fun s C => br_neg (Int.lt_irrefl 0) _ _) 19 k [] (k.toNat + 1) h0 hk (by omega) (by decide) (by omega)
  rw [e, bnd_some']
  exact ⟨_, br_pos (by simp only [List.length_cons, List.length_nil, capN]; omega) _ _⟩
theorem mks_ValueS : MkStep ZValue ZValue B_laws_markValueS_l0 B_laws_heldValueS_l0 4 (fun y => Sm_Value 1048576 y) := by
  intro i x k hP h0 hk hi
  have hP : Sm_Value 1048576 x := hP
  unfold MkMax at hk
  have w2 : IntKind.i64.wrap (k + 1) = k + 1 := wrap_eq (by omega) (by omega)
  have w4 : IntKind.i64.wrap (k + 1 + 1) = k + 1 + 1 := wrap_eq (by omega) (by omega)
  have w6 : IntKind.i64.wrap (k + 1 + 1 + 1) = k + 1 + 1 + 1 := wrap_eq (by omega) (by omega)
  obtain ⟨t7, e7⟩ := mk_text (k + 1 + 1 + 1) (by omega) (by omega)
  have w8 : IntKind.i64.wrap (k + 1 + 1 + 1 + 1) = k + 1 + 1 + 1 + 1 := wrap_eq (by omega) (by omega)
  have b1 : decide ((0 : Int) ≤ (i : Int)) = true := decide_eq_true (by omega)
  refine ⟨k + 1 + 1 + 1 + 1, (k, k + 1, k + 1 + 1, t7, ()), fun l C hi hx => ?_, fun l C hi hx => ?_, by omega, by omega⟩
  · have b2 : decide ((i : Int) < (l.length : Int)) = true := decide_eq_true (by omega)
    unfold B_laws_markValueS_l0
    simp only [b1, b2, hx, Int.toNat_natCast, List.length_set, getD_setl hi, List.set_set, not3, br_true, br_false, bnd_some', onSum_inl, beq_self_eq_true, bne_self_eq_false, Bool.not_true, wrap_succ (show i < 9223372036854775807 by omega), w2, w4, w6, e7, w8]
    try rfl
  · have b2 : decide ((i : Int) < (l.length : Int)) = true := decide_eq_true (by omega)
    unfold B_laws_heldValueS_l0
    simp only [b1, b2, hx, Int.toNat_natCast, List.length_set, getD_setl hi, List.set_set, not3, br_true, br_false, bnd_some', onSum_inl, beq_self_eq_true, bne_self_eq_false, Bool.not_true, wrap_succ (show i < 9223372036854775807 by omega), w2, w4, w6, e7, w8]
    try rfl
theorem mk_ValueS : MK F_laws_markValueS F_laws_heldValueS 4194304 (fun a => (a.length ≤ 1048576 ∧ ∀ y ∈ a, Sm_Value 1048576 y)) := by
  intro a k hP h0 hk
  unfold MkMax at hk
  obtain ⟨k', l', e1, e2, g1, g2⟩ := mk_slice mks_ValueS (by decide) (fun l k C => by unfold B_laws_markValueS_l0; exact br_neg (Int.lt_irrefl _) _ _) (fun l k C => by unfold B_laws_heldValueS_l0; exact br_neg (Int.lt_irrefl _) _ _) a k hP h0 (by unfold MkMax; omega)
  refine ⟨k', l', ?_, ?_, g1, by omega⟩
  · unfold F_laws_markValueS F_laws_markValueS_l0; rw [e1]; rfl
  · unfold F_laws_heldValueS F_laws_heldValueS_l0; rw [e2]; rfl
theorem mks_RowS : MkStepo ZoRow B_laws_markRowS_l0 4194304 (fun y => Sm_Row 1048576 y) := by
  intro i x k hP h0 hk hi
  have hP : Sm_Row 1048576 x := hP
  unfold MkMax at hk
  obtain ⟨k1, m1, e1, f1, g1, g1'⟩ := mk_ValueS x.1 (k) (hP) (by omega) (by unfold MkMax; omega)
  have n1 : decide (k1 < 0) = false := decide_eq_false (by omega)
  have b1 : decide ((0 : Int) ≤ (i : Int)) = true := decide_eq_true (by omega)
  refine ⟨k1, (m1, ()), fun l C hi hx => ?_, by omega, by omega⟩
  have b2 : decide ((i : Int) < (l.length : Int)) = true := decide_eq_true (by omega)
  unfold B_laws_markRowS_l0
  simp only [b1, b2, hx, Int.toNat_natCast, List.length_set, getD_setl hi, List.set_set, not3, br_true, br_false, bnd_some', onSum_inl, beq_self_eq_true, bne_self_eq_false, Bool.not_true, wrap_succ (show i < 9223372036854775807 by omega), e1, f1, n1]
  try rfl
theorem mk_RowS : MKo F_laws_markRowS 4398046511104 (fun a => (a.length ≤ 1048576 ∧ ∀ y ∈ a, Sm_Row 1048576 y)) := by
  intro a k hP h0 hk
  unfold MkMax at hk
  obtain ⟨k', l', e1, g1, g2⟩ := mk_sliceo mks_RowS (by decide) (fun l k C => by unfold B_laws_markRowS_l0; exact br_neg (Int.lt_irrefl _) _ _) a k hP h0 (by unfold MkMax; omega)
  refine ⟨k', l', ?_, g1, by omega⟩
  unfold F_laws_markRowS F_laws_markRowS_l0; rw [e1]; rfl
theorem mks_IntS : MkStep zInt zInt B_laws_markIntS_l0 B_laws_heldIntS_l0 1 (fun y => Rng .i64 y) := by
  intro i x k hP h0 hk hi
  have hP : Rng .i64 x := hP
  unfold MkMax at hk
  have w2 : IntKind.i64.wrap (k + 1) = k + 1 := wrap_eq (by omega) (by omega)
  have b1 : decide ((0 : Int) ≤ (i : Int)) = true := decide_eq_true (by omega)
  refine ⟨k + 1, k, fun l C hi hx => ?_, fun l C hi hx => ?_, by omega, by omega⟩
  · have b2 : decide ((i : Int) < (l.length : Int)) = true := decide_eq_true (by omega)
    unfold B_laws_markIntS_l0
    simp only [b1, b2, hx, Int.toNat_natCast, List.length_set, getD_setl hi, List.set_set, not3, br_true, br_false, bnd_some', onSum_inl, beq_self_eq_true, bne_self_eq_false, Bool.not_true, wrap_succ (show i < 9223372036854775807 by omega), w2]
    try rfl
  · have b2 : decide ((i : Int) < (l.length : Int)) = true := decide_eq_true (by omega)
    unfold B_laws_heldIntS_l0
    simp only [b1, b2, hx, Int.toNat_natCast, List.length_set, getD_setl hi, List.set_set, not3, br_true, br_false, bnd_some', onSum_inl, beq_self_eq_true, bne_self_eq_false, Bool.not_true, wrap_succ (show i < 9223372036854775807 by omega), w2]
    try rfl
theorem mk_IntS : MK F_laws_markIntS F_laws_heldIntS 1048576 (fun a => (a.length ≤ 1048576 ∧ ∀ y ∈ a, Rng .i64 y)) := by
  intro a k hP h0 hk
  unfold MkMax at hk
  obtain ⟨k', l', e1, e2, g1, g2⟩ := mk_slice mks_IntS (by decide) (fun l k C => by unfold B_laws_markIntS_l0; exact br_neg (Int.lt_irrefl _) _ _) (fun l k C => by unfold B_laws_heldIntS_l0; exact br_neg (Int.lt_irrefl _) _ _) a k hP h0 (by unfold MkMax; omega)
  refine ⟨k', l', ?_, ?_, g1, by omega⟩
  · unfold F_laws_markIntS F_laws_markIntS_l0; rw [e1]; rfl
  · unfold F_laws_heldIntS F_laws_heldIntS_l0; rw [e2]; rfl
theorem mkx_Hist (a : DHist) (k : Int) (hP : Sm_Hist 1048576 a) (h0 : 0 ≤ k) (hk : k + 5242880 ≤ MkMax) : ∃ k' m1 m2, F_laws_markHist a k = some (k', (a.1, a.2.1, a.2.2.1, m1, m2, ())) ∧ F_laws_heldHist (a.1, a.2.1, a.2.2.1, m1, m2, ()) k = some k' ∧ k ≤ k' ∧ k' ≤ k + 5242880 := by
  unfold MkMax at hk
  obtain ⟨k1, m1, e1, f1, g1, g1'⟩ := mk_ValueS a.2.2.2.1 (k) (hP.2.2.2.1) (by omega) (by unfold MkMax; omega)
  have n1 : decide (k1 < 0) = false := decide_eq_false (by omega)
  obtain ⟨k2, m2, e2, f2, g2, g2'⟩ := mk_IntS a.2.2.2.2.1 (k1) (hP.2.2.2.2) (by omega) (by unfold MkMax; omega)
  have n2 : decide (k2 < 0) = false := decide_eq_false (by omega)
  refine ⟨k2, m1, m2, ?_, ?_, by omega, by omega⟩
  · unfold F_laws_markHist
    simp only [br_true, br_false, bnd_some', onSum_inl, beq_self_eq_true, bne_self_eq_false, Bool.not_true, e1, f1, n1, e2, f2, n2]
    try rfl
  · unfold F_laws_heldHist
    simp only [br_true, br_false, bnd_some', onSum_inl, beq_self_eq_true, bne_self_eq_false, Bool.not_true, e1, f1, n1, e2, f2, n2]
    try rfl
theorem mk_Hist : MK F_laws_markHist F_laws_heldHist 5242880 (fun y => Sm_Hist 1048576 y) := by
  intro a k hP h0 hk
  obtain ⟨k', m1, m2, e, f, g⟩ := mkx_Hist a k hP h0 hk
  exact ⟨k', _, e, f, g⟩
end Go.Ev.T1
