import Derived.Test.YtfdmjgmipnohkaaSrSz
import Derived.Test.YtfdmjgmipnohkaaSrEvH
set_option linter.unusedSimpArgs false
set_option linter.unusedVariables false
namespace Go.Ev.T1
open Go Go.Proofs
theorem mk_text (k : Int) (h0 : 0 ≤ k) (hk : k ≤ 9000000000000000000) : ∃ t, F_u71f k = some t := by
 unfold F_u71f
 by_cases h : k ≤ 0
 ·exact ⟨_, y2q h _ _⟩
 rw [y11q h]
 unfold F_u71f_l0
 obtain ⟨t, e, g⟩ := text_loop (B := B_u71f_l0) (fun k => UInt8.ofNat (IntKind.u8.wrap (IntKind.i64.wrap (48 + Int.tmod k 10))).toNat) (fun k s C hk hk2 hs => by
   unfold B_u71f_l0
   have hd : k.tdiv 10 = k / 10 := Int.tdiv_eq_ediv_of_nonneg (by omega)
   simp only
   rw [y2q (show k > 0 by omega), not10, br_true, y2q (by simp only [List.length_map, List.length_cons, List.length_nil, capN]; omega), br_true]
   rw [y17q (x := k.tdiv 10) (by rw [hd]; omega) (by rw [hd]; omega)]
   rfl) (fun s C => y11q (Int.lt_irrefl 0) _ _) 19 k [] (k.toNat + 1) h0 hk (by omega) (by decide) (by omega)
 rw [e, y6q]
 exact ⟨_, y2q (by simp only [List.length_cons, List.length_nil, capN]; omega) _ _⟩
theorem mks_StoreOpS : MkStepo y24q B_u72f_l0 11 (fun y => Sm_StoreOp 1048576 y) := by
 intro i x k hP h0 hk hi
 have hP : Sm_StoreOp 1048576 x := hP
 unfold MkMax at hk
 have w2 : IntKind.i64.wrap (k + 1) = k + 1 := y17q (by omega) (by omega)
 obtain ⟨t3, e3⟩ := mk_text (k + 1) (by omega) (by omega)
 have w4 : IntKind.i64.wrap (k + 1 + 1) = k + 1 + 1 := y17q (by omega) (by omega)
 have w6 : IntKind.i64.wrap (k + 1 + 1 + 1) = k + 1 + 1 + 1 := y17q (by omega) (by omega)
 have w8 : IntKind.i64.wrap (k + 1 + 1 + 1 + 1) = k + 1 + 1 + 1 + 1 := y17q (by omega) (by omega)
 have w10 : IntKind.i64.wrap (k + 1 + 1 + 1 + 1 + 1) = k + 1 + 1 + 1 + 1 + 1 := y17q (by omega) (by omega)
 obtain ⟨t11, e11⟩ := mk_text (k + 1 + 1 + 1 + 1 + 1) (by omega) (by omega)
 have w12 : IntKind.i64.wrap (k + 1 + 1 + 1 + 1 + 1 + 1) = k + 1 + 1 + 1 + 1 + 1 + 1 := y17q (by omega) (by omega)
 obtain ⟨t13, e13⟩ := mk_text (k + 1 + 1 + 1 + 1 + 1 + 1) (by omega) (by omega)
 have w14 : IntKind.i64.wrap (k + 1 + 1 + 1 + 1 + 1 + 1 + 1) = k + 1 + 1 + 1 + 1 + 1 + 1 + 1 := y17q (by omega) (by omega)
 obtain ⟨t15, e15⟩ := mk_text (k + 1 + 1 + 1 + 1 + 1 + 1 + 1) (by omega) (by omega)
 have w16 : IntKind.i64.wrap (k + 1 + 1 + 1 + 1 + 1 + 1 + 1 + 1) = k + 1 + 1 + 1 + 1 + 1 + 1 + 1 + 1 := y17q (by omega) (by omega)
 have w18 : IntKind.i64.wrap (k + 1 + 1 + 1 + 1 + 1 + 1 + 1 + 1 + 1) = k + 1 + 1 + 1 + 1 + 1 + 1 + 1 + 1 + 1 := y17q (by omega) (by omega)
 have w20 : IntKind.i64.wrap (k + 1 + 1 + 1 + 1 + 1 + 1 + 1 + 1 + 1 + 1) = k + 1 + 1 + 1 + 1 + 1 + 1 + 1 + 1 + 1 + 1 := y17q (by omega) (by omega)
 have w22 : IntKind.i64.wrap (k + 1 + 1 + 1 + 1 + 1 + 1 + 1 + 1 + 1 + 1 + 1) = k + 1 + 1 + 1 + 1 + 1 + 1 + 1 + 1 + 1 + 1 + 1 := y17q (by omega) (by omega)
 have b1 : decide ((0 : Int) ≤ (i : Int)) = true := decide_eq_true (by omega)
 refine ⟨k + 1 + 1 + 1 + 1 + 1 + 1 + 1 + 1 + 1 + 1 + 1, (k, (t3, (k + 1 + 1, k + 1 + 1 + 1, ()), ((k + 1 + 1 + 1 + 1).tmod 3 == 0), t11, ()), t13, t15, (k + 1 + 1 + 1 + 1 + 1 + 1 + 1 + 1, k + 1 + 1 + 1 + 1 + 1 + 1 + 1 + 1 + 1, ()), k + 1 + 1 + 1 + 1 + 1 + 1 + 1 + 1 + 1 + 1, ()), fun l C hi hx => ?_, by omega, by omega⟩
 have b2 : decide ((i : Int) < (l.length : Int)) = true := decide_eq_true (by omega)
 unfold B_u72f_l0
 simp only [b1, b2, hx, Int.toNat_natCast, List.length_set, getD_setl hi, List.set_set, not3, br_true, y58q, y6q, y99q, beq_self_eq_true, bne_self_eq_false, Bool.not_true, y9q (show i < 9223372036854775807 by omega), w2, e3, w4, w6, w8, w10, e11, w12, e13, w14, e15, w16, w18, w20, w22]
 try rfl
theorem mk_StoreOpS : MKo F_u72f 11534336 (fun a => (a.length ≤ 1048576 ∧ ∀ y ∈ a, Sm_StoreOp 1048576 y)) := by
 intro a k hP h0 hk
 unfold MkMax at hk
 obtain ⟨k', l', e1, g1, g2⟩ := mk_sliceo mks_StoreOpS (by decide) (fun l k C => by unfold B_u72f_l0; exact y11q (Int.lt_irrefl _) _ _) a k hP h0 (by unfold MkMax; omega)
 refine ⟨k', l', ?_, g1, by omega⟩
 unfold F_u72f F_u72f_l0; rw [e1]; rfl
theorem mks_VersionS : MkStep y1q y1q B_u73f_l0 B_u75f_l0 5 (fun y => Sm_Version 1048576 y) := by
 intro i x k hP h0 hk hi
 have hP : Sm_Version 1048576 x := hP
 unfold MkMax at hk
 obtain ⟨t1, e1⟩ := mk_text (k) (by omega) (by omega)
 have w2 : IntKind.i64.wrap (k + 1) = k + 1 := y17q (by omega) (by omega)
 have w4 : IntKind.i64.wrap (k + 1 + 1) = k + 1 + 1 := y17q (by omega) (by omega)
 have w6 : IntKind.i64.wrap (k + 1 + 1 + 1) = k + 1 + 1 + 1 := y17q (by omega) (by omega)
 have w8 : IntKind.i64.wrap (k + 1 + 1 + 1 + 1) = k + 1 + 1 + 1 + 1 := y17q (by omega) (by omega)
 obtain ⟨t9, e9⟩ := mk_text (k + 1 + 1 + 1 + 1) (by omega) (by omega)
 have w10 : IntKind.i64.wrap (k + 1 + 1 + 1 + 1 + 1) = k + 1 + 1 + 1 + 1 + 1 := y17q (by omega) (by omega)
 have b1 : decide ((0 : Int) ≤ (i : Int)) = true := decide_eq_true (by omega)
 refine ⟨k + 1 + 1 + 1 + 1 + 1, (t1, (k + 1, k + 1 + 1, ()), ((k + 1 + 1 + 1).tmod 3 == 0), t9, ()), fun l C hi hx => ?_, fun l C hi hx => ?_, by omega, by omega⟩
 ·have b2 : decide ((i : Int) < (l.length : Int)) = true := decide_eq_true (by omega)
  unfold B_u73f_l0
  simp only [b1, b2, hx, Int.toNat_natCast, List.length_set, getD_setl hi, List.set_set, not3, br_true, y58q, y6q, y99q, beq_self_eq_true, bne_self_eq_false, Bool.not_true, y9q (show i < 9223372036854775807 by omega), e1, w2, w4, w6, w8, e9, w10]
  try rfl
 ·have b2 : decide ((i : Int) < (l.length : Int)) = true := decide_eq_true (by omega)
  unfold B_u75f_l0
  simp only [b1, b2, hx, Int.toNat_natCast, List.length_set, getD_setl hi, List.set_set, not3, br_true, y58q, y6q, y99q, beq_self_eq_true, bne_self_eq_false, Bool.not_true, y9q (show i < 9223372036854775807 by omega), e1, w2, w4, w6, w8, e9, w10]
  try rfl
theorem mk_VersionS : MK F_u73f F_u75f 5242880 (fun a => (a.length ≤ 1048576 ∧ ∀ y ∈ a, Sm_Version 1048576 y)) := by
 intro a k hP h0 hk
 unfold MkMax at hk
 obtain ⟨k', l', e1, e2, g1, g2⟩ := mk_slice mks_VersionS (by decide) (fun l k C => by unfold B_u73f_l0; exact y11q (Int.lt_irrefl _) _ _) (fun l k C => by unfold B_u75f_l0; exact y11q (Int.lt_irrefl _) _ _) a k hP h0 (by unfold MkMax; omega)
 refine ⟨k', l', ?_, ?_, g1, by omega⟩
 ·unfold F_u73f F_u73f_l0; rw [e1]; rfl
 ·unfold F_u75f F_u75f_l0; rw [e2]; rfl
theorem mks_StoreObsS : MkStep ZoStoreObs ZStoreObs B_u74f_l0 B_u76f_l0 5242882 (fun y => Sm_StoreObs 1048576 y) := by
 intro i x k hP h0 hk hi
 have hP : Sm_StoreObs 1048576 x := hP
 unfold MkMax at hk
 have w2 : IntKind.i64.wrap (k + 1) = k + 1 := y17q (by omega) (by omega)
 have w4 : IntKind.i64.wrap (k + 1 + 1) = k + 1 + 1 := y17q (by omega) (by omega)
 obtain ⟨k5, m5, e5, f5, g5, g5'⟩ := mk_VersionS x.2.2.1 (k + 1 + 1) (hP.2) (by omega) (by unfold MkMax; omega)
 have n5 : decide (k5 < 0) = false := decide_eq_false (by omega)
 have b1 : decide ((0 : Int) ≤ (i : Int)) = true := decide_eq_true (by omega)
 refine ⟨k5, (k, ((k + 1).tmod 3 == 0), m5, ()), fun l C hi hx => ?_, fun l C hi hx => ?_, by omega, by omega⟩
 ·have b2 : decide ((i : Int) < (l.length : Int)) = true := decide_eq_true (by omega)
  unfold B_u74f_l0
  simp only [b1, b2, hx, Int.toNat_natCast, List.length_set, getD_setl hi, List.set_set, not3, br_true, y58q, y6q, y99q, beq_self_eq_true, bne_self_eq_false, Bool.not_true, y9q (show i < 9223372036854775807 by omega), w2, w4, e5, f5, n5]
  try rfl
 ·have b2 : decide ((i : Int) < (l.length : Int)) = true := decide_eq_true (by omega)
  unfold B_u76f_l0
  simp only [b1, b2, hx, Int.toNat_natCast, List.length_set, getD_setl hi, List.set_set, not3, br_true, y58q, y6q, y99q, beq_self_eq_true, bne_self_eq_false, Bool.not_true, y9q (show i < 9223372036854775807 by omega), w2, w4, e5, f5, n5]
  try rfl
theorem mk_StoreObsS : MK F_u74f F_u76f 5497560236032 (fun a => (a.length ≤ 1048576 ∧ ∀ y ∈ a, Sm_StoreObs 1048576 y)) := by
 intro a k hP h0 hk
 unfold MkMax at hk
 obtain ⟨k', l', e1, e2, g1, g2⟩ := mk_slice mks_StoreObsS (by decide) (fun l k C => by unfold B_u74f_l0; exact y11q (Int.lt_irrefl _) _ _) (fun l k C => by unfold B_u76f_l0; exact y11q (Int.lt_irrefl _) _ _) a k hP h0 (by unfold MkMax; omega)
 refine ⟨k', l', ?_, ?_, g1, by omega⟩
 ·unfold F_u74f F_u74f_l0; rw [e1]; rfl
 ·unfold F_u76f F_u76f_l0; rw [e2]; rfl
end Go.Ev.T1
