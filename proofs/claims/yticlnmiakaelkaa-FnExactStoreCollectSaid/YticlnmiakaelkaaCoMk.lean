/- Marks: what is marked is held. -/
import Derived.Test.YticlnmiakaelkaaCoSz
import Derived.Test.YticlnmiakaelkaaCoEvH
set_option linter.unusedSimpArgs false
set_option linter.unusedVariables false
namespace Go.Ev.T1
open Go Go.Proofs
theorem mk_text (k : Int) (h0 : 0 ≤ k) (hk : k ≤ 9000000000000000000) : ∃ t, F_laws_markText k = some t := by
  unfold F_laws_markText
  by_cases h : k ≤ 0
  · exact ⟨_, br_pos h _ _⟩
  rw [br_neg h]
  unfold F_laws_markText_l0
  obtain ⟨t, e, g⟩ := text_loop (B := B_laws_markText_l0) (fun k => UInt8.ofNat (IntKind.u8.wrap (IntKind.i64.wrap (48 + Int.tmod k 10))).toNat) (fun k s C hk hk2 hs => by
      unfold B_laws_markText_l0
      have hd : k.tdiv 10 = k / 10 := Int.tdiv_eq_ediv_of_nonneg (by omega)
      simp only
      rw [br_pos (show k > 0 by omega), not10, br_true, br_pos (by simp only [List.length_map, List.length_cons, List.length_nil, capN]; omega), br_true]
      rw [wrap_eq (x := k.tdiv 10) (by rw [hd]; omega) (by rw [hd]; omega)]
      rfl) (fun s C => br_neg (Int.lt_irrefl 0) _ _) 19 k [] (k.toNat + 1) h0 hk (by omega) (by decide) (by omega)
  rw [e, bnd_some']
  exact ⟨_, br_pos (by simp only [List.length_cons, List.length_nil, capN]; omega) _ _⟩
theorem mks_VersionS : MkStep ZVersion ZVersion B_laws_markVersionS_l0 B_laws_heldVersionS_l0 5 (fun y => Sm_Version 1048576 y) := by
  intro i x k hP h0 hk hi
  have hP : Sm_Version 1048576 x := hP
  unfold MkMax at hk
  obtain ⟨t1, e1⟩ := mk_text (k) (by omega) (by omega)
  have w2 : IntKind.i64.wrap (k + 1) = k + 1 := wrap_eq (by omega) (by omega)
  have w4 : IntKind.i64.wrap (k + 1 + 1) = k + 1 + 1 := wrap_eq (by omega) (by omega)
  have w6 : IntKind.i64.wrap (k + 1 + 1 + 1) = k + 1 + 1 + 1 := wrap_eq (by omega) (by omega)
  have w8 : IntKind.i64.wrap (k + 1 + 1 + 1 + 1) = k + 1 + 1 + 1 + 1 := wrap_eq (by omega) (by omega)
  obtain ⟨t9, e9⟩ := mk_text (k + 1 + 1 + 1 + 1) (by omega) (by omega)
  have w10 : IntKind.i64.wrap (k + 1 + 1 + 1 + 1 + 1) = k + 1 + 1 + 1 + 1 + 1 := wrap_eq (by omega) (by omega)
  have b1 : decide ((0 : Int) ≤ (i : Int)) = true := decide_eq_true (by omega)
  refine ⟨k + 1 + 1 + 1 + 1 + 1, (t1, (k + 1, k + 1 + 1, ()), ((k + 1 + 1 + 1).tmod 3 == 0), t9, ()), fun l C hi hx => ?_, fun l C hi hx => ?_, by omega, by omega⟩
  · have b2 : decide ((i : Int) < (l.length : Int)) = true := decide_eq_true (by omega)
    unfold B_laws_markVersionS_l0
    simp only [b1, b2, hx, Int.toNat_natCast, List.length_set, getD_setl hi, List.set_set, not3, br_true, br_false, bnd_some', onSum_inl, beq_self_eq_true, bne_self_eq_false, Bool.not_true, wrap_succ (show i < 9223372036854775807 by omega), e1, w2, w4, w6, w8, e9, w10]
    try rfl
  · have b2 : decide ((i : Int) < (l.length : Int)) = true := decide_eq_true (by omega)
    unfold B_laws_heldVersionS_l0
    simp only [b1, b2, hx, Int.toNat_natCast, List.length_set, getD_setl hi, List.set_set, not3, br_true, br_false, bnd_some', onSum_inl, beq_self_eq_true, bne_self_eq_false, Bool.not_true, wrap_succ (show i < 9223372036854775807 by omega), e1, w2, w4, w6, w8, e9, w10]
    try rfl
theorem mk_VersionS : MK F_laws_markVersionS F_laws_heldVersionS 5242880 (fun a => (a.length ≤ 1048576 ∧ ∀ y ∈ a, Sm_Version 1048576 y)) := by
  intro a k hP h0 hk
  unfold MkMax at hk
  obtain ⟨k', l', e1, e2, g1, g2⟩ := mk_slice mks_VersionS (by decide) (fun l k C => by unfold B_laws_markVersionS_l0; exact br_neg (Int.lt_irrefl _) _ _) (fun l k C => by unfold B_laws_heldVersionS_l0; exact br_neg (Int.lt_irrefl _) _ _) a k hP h0 (by unfold MkMax; omega)
  refine ⟨k', l', ?_, ?_, g1, by omega⟩
  · unfold F_laws_markVersionS F_laws_markVersionS_l0; rw [e1]; rfl
  · unfold F_laws_heldVersionS F_laws_heldVersionS_l0; rw [e2]; rfl
theorem mks_RunS : MkStep ZoRun ZRun B_laws_markRunS_l0 B_laws_heldRunS_l0 5242881 (fun y => Sm_Run 1048576 y) := by
  intro i x k hP h0 hk hi
  have hP : Sm_Run 1048576 x := hP
  unfold MkMax at hk
  obtain ⟨k1, m1, e1, f1, g1, g1'⟩ := mk_VersionS x.1 (k) (hP.1) (by omega) (by unfold MkMax; omega)
  have n1 : decide (k1 < 0) = false := decide_eq_false (by omega)
  obtain ⟨t2, e2⟩ := mk_text (k1) (by omega) (by omega)
  have w3 : IntKind.i64.wrap (k1 + 1) = k1 + 1 := wrap_eq (by omega) (by omega)
  have b1 : decide ((0 : Int) ≤ (i : Int)) = true := decide_eq_true (by omega)
  refine ⟨k1 + 1, (m1, t2, ()), fun l C hi hx => ?_, fun l C hi hx => ?_, by omega, by omega⟩
  · have b2 : decide ((i : Int) < (l.length : Int)) = true := decide_eq_true (by omega)
    unfold B_laws_markRunS_l0
    simp only [b1, b2, hx, Int.toNat_natCast, List.length_set, getD_setl hi, List.set_set, not3, br_true, br_false, bnd_some', onSum_inl, beq_self_eq_true, bne_self_eq_false, Bool.not_true, wrap_succ (show i < 9223372036854775807 by omega), e1, f1, n1, e2, w3]
    try rfl
  · have b2 : decide ((i : Int) < (l.length : Int)) = true := decide_eq_true (by omega)
    unfold B_laws_heldRunS_l0
    simp only [b1, b2, hx, Int.toNat_natCast, List.length_set, getD_setl hi, List.set_set, not3, br_true, br_false, bnd_some', onSum_inl, beq_self_eq_true, bne_self_eq_false, Bool.not_true, wrap_succ (show i < 9223372036854775807 by omega), e1, f1, n1, e2, w3]
    try rfl
theorem mk_RunS : MK F_laws_markRunS F_laws_heldRunS 5497559187456 (fun a => (a.length ≤ 1048576 ∧ ∀ y ∈ a, Sm_Run 1048576 y)) := by
  intro a k hP h0 hk
  unfold MkMax at hk
  obtain ⟨k', l', e1, e2, g1, g2⟩ := mk_slice mks_RunS (by decide) (fun l k C => by unfold B_laws_markRunS_l0; exact br_neg (Int.lt_irrefl _) _ _) (fun l k C => by unfold B_laws_heldRunS_l0; exact br_neg (Int.lt_irrefl _) _ _) a k hP h0 (by unfold MkMax; omega)
  refine ⟨k', l', ?_, ?_, g1, by omega⟩
  · unfold F_laws_markRunS F_laws_markRunS_l0; rw [e1]; rfl
  · unfold F_laws_heldRunS F_laws_heldRunS_l0; rw [e2]; rfl
theorem mkx_Store (a : DStore) (k : Int) (hP : Sm_Store 1048576 a) (h0 : 0 ≤ k) (hk : k + 5497564430336 ≤ MkMax) : ∃ k' m1 m2, F_laws_markStore a k = some (k', (m1, m2, a.2.2.1, ())) ∧ F_laws_heldStore (m1, m2, a.2.2.1, ()) k = some k' ∧ k ≤ k' ∧ k' ≤ k + 5497564430336 := by
  unfold MkMax at hk
  obtain ⟨k1, m1, e1, f1, g1, g1'⟩ := mk_VersionS a.1 (k) (hP.1) (by omega) (by unfold MkMax; omega)
  have n1 : decide (k1 < 0) = false := decide_eq_false (by omega)
  obtain ⟨k2, m2, e2, f2, g2, g2'⟩ := mk_RunS a.2.1 (k1) (hP.2.1) (by omega) (by unfold MkMax; omega)
  have n2 : decide (k2 < 0) = false := decide_eq_false (by omega)
  refine ⟨k2, m1, m2, ?_, ?_, by omega, by omega⟩
  · unfold F_laws_markStore
    simp only [br_true, br_false, bnd_some', onSum_inl, beq_self_eq_true, bne_self_eq_false, Bool.not_true, e1, f1, n1, e2, f2, n2]
    try rfl
  · unfold F_laws_heldStore
    simp only [br_true, br_false, bnd_some', onSum_inl, beq_self_eq_true, bne_self_eq_false, Bool.not_true, e1, f1, n1, e2, f2, n2]
    try rfl
theorem mk_Store : MK F_laws_markStore F_laws_heldStore 5497564430336 (fun y => Sm_Store 1048576 y) := by
  intro a k hP h0 hk
  obtain ⟨k', m1, m2, e, f, g⟩ := mkx_Store a k hP h0 hk
  exact ⟨k', _, e, f, g⟩
end Go.Ev.T1
