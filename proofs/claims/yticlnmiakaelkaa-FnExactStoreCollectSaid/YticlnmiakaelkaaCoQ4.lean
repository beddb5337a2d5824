/- Lists in order. -/
import Derived.Test.YticlnmiakaelkaaCoQ3
set_option linter.unusedSimpArgs false
set_option linter.unusedVariables false
namespace Go.Ev.T1
open Go Go.Proofs
def TimeP (a : DTime) : Prop := (0 ≤ a.1 ∧ a.1 ≤ 1000000000000) ∧ 0 ≤ a.2.1 ∧ a.2.1 ≤ 1000000
theorem implTimeOK (a : DTime) : Ans (F_impl_TimeOK a) (some true) (some false) (TimeP a) := by
  unfold F_impl_TimeOK TimeP
  refine ans_iff (ans_br_no' fun _ => ans_br_no' fun _ => ans_br_no' fun _ => ans_decide) ?_
  omega
theorem specTimeOK (a : DTime) : Ans (F_spec_TimeOK a) (some true) (some false) (TimeP a) := by
  unfold F_spec_TimeOK TimeP
  refine ans_iff (ans_br_no' fun _ => ans_br_no' fun _ => ans_br_no' fun _ => ans_decide) ?_
  omega
def VerP (v : DVersion) : Prop := 1 ≤ v.1.length ∧ v.1.length ≤ 4000 ∧ TimeP v.2.1 ∧ ¬ (v.2.1.1 = 0 ∧ v.2.1.2.1 = 0) ∧ v.2.2.2.1.length ≤ 4000 ∧ (v.2.2.1 = true → v.2.2.2.1 = [])
theorem implVer (v : DVersion) : Ans (F_impl_versionOK v) (some true) (some false) (VerP v) := by
  unfold F_impl_versionOK VerP
  simp only [eqI_dec, andB_true, andB_dec, not_dec, beq_dec, br_swap]
  refine ans_iff (ans_br_no' fun _ => ans_br_no' fun _ => ans_bnd_no (implTimeOK v.2.1) rfl fun _ => ans_brt (ans_br_no' fun _ => ans_br_no' fun _ => ans_bool_yes' fun _ => ans_decide)) ?_
  constructor
  · rintro ⟨h1, h2, h3, h4, h5, h6⟩; exact ⟨by omega, by omega, h3, h4, by omega, h6⟩
  · rintro ⟨h1, h2, h3, h4, h5, h6⟩; exact ⟨by omega, by omega, h3, h4, by omega, h6⟩
theorem specVer (v : DVersion) : Ans (F_spec_l03VersionOK v) (some true) (some false) (VerP v) := by
  unfold F_spec_l03VersionOK VerP
  simp only [eqI_dec, andB_true, andB_dec, not_dec, beq_dec, br_swap]
  refine ans_iff (ans_br_no' fun _ => ans_br_no' fun _ => ans_bnd_no (specTimeOK v.2.1) rfl fun _ => ans_brt (ans_br_no' fun _ => ans_br_no' fun _ => ans_bool_yes' fun _ => ans_decide)) ?_
  have e : ((v.2.2.2.1.length : Int) = 0) ↔ v.2.2.2.1 = [] := by cases v.2.2.2.1 <;> simp <;> omega
  rw [e]
  constructor
  · rintro ⟨h1, h2, h3, h4, h5, h6⟩; exact ⟨by omega, by omega, h3, h4, by omega, h6⟩
  · rintro ⟨h1, h2, h3, h4, h5, h6⟩; exact ⟨by omega, by omega, h3, h4, by omega, h6⟩
def StepP (l : List DVersion) (i : Nat) : Prop := VerP (l.getD i ZVersion) ∧ (0 < i → Ahead (l.getD (i - 1) ZVersion) (l.getD i ZVersion))
def ListP (l : List DVersion) : Prop := ∀ i, i < l.length → StepP l i
theorem wrap_pred {i : Nat} (h : i < 9223372036854775807) (h0 : 0 < i) : IntKind.i64.wrap ((i : Int) - 1) = ((i - 1 : Nat) : Int) := by rw [wrap_eq (by omega) (by omega)]; omega
theorem implList (l : List DVersion) (hl : l.length ≤ 1048576) : Ans (F_impl_listOK l) (some true) (some false) (ListP l) := by
  have key : Ans (F_impl_listOK_l0 l l ((l.length : Nat) : Int) 0) (some (.inl ())) (some (.inr false)) (ListP l) := by
    unfold F_impl_listOK_l0 ListP
    refine ans_loop (fun i => (l, l, ((l.length : Nat) : Int), ((i : Nat) : Int))) _ _ (fun i C hi hb => ?_) (fun C _ => ?_) (by omega)
    · unfold B_impl_listOK_l0 StepP
      simp (disch := omega) only [wrap_succ, Int.toNat_natCast, implBefore]
      by_cases h0 : 0 < i
      · simp (disch := omega) only [wrap_pred, Int.toNat_natCast]
        refine ans_iff (ans_chk (by omega) (ans_chk (by omega) (ans_chk (by omega) (ans_bnd_no (implVer _) rfl fun _ => ans_brf (ans_chk (by omega) (ans_chk (by omega) (ans_chk (by omega) (ans_val rfl (ans_bool_no fun _ => ans_yes))))))))) ?_
        simp only [Bool.not_eq_true', Bool.not_eq_false, ahead_iff, and_true, h0, true_implies]
      · refine ans_iff (ans_chk (by omega) (ans_chk (by omega) (ans_chk (by omega) (ans_bnd_no (implVer _) rfl fun _ => ans_brf (ans_chkn (by omega) ans_yes))))) ?_
        simp [h0]
    · unfold B_impl_listOK_l0
      exact br_neg (by simp) _ _
  unfold F_impl_listOK
  exact ans_bnd_end key rfl rfl
theorem specList (l : List DVersion) (hl : l.length ≤ 1048576) : Ans (F_spec_l03InOrder l) (some true) (some false) (ListP l) := by
  have key : Ans (F_spec_l03InOrder_l0 l 0) (some (.inl ())) (some (.inr false)) (ListP l) := by
    unfold F_spec_l03InOrder_l0 ListP
    refine ans_loop (fun i => (l, ((i : Nat) : Int))) _ _ (fun i C hi hb => ?_) (fun C _ => ?_) (by omega)
    · unfold B_spec_l03InOrder_l0 StepP
      simp (disch := omega) only [wrap_succ, Int.toNat_natCast, specBefore]
      by_cases h0 : 0 < i
      · simp (disch := omega) only [wrap_pred, Int.toNat_natCast]
        refine ans_iff (ans_chk (by omega) (ans_chk (by omega) (ans_chk (by omega) (ans_bnd_no (specVer _) rfl fun _ => ans_brf (ans_chk (by omega) (ans_chk (by omega) (ans_chk (by omega) (ans_chk (by omega) (ans_chk (by omega) (ans_val rfl (ans_bool_no fun _ => ans_yes))))))))))) ?_
        simp only [Bool.not_eq_true', Bool.not_eq_false, ahead_iff, and_true, h0, true_implies]
      · refine ans_iff (ans_chk (by omega) (ans_chk (by omega) (ans_chk (by omega) (ans_bnd_no (specVer _) rfl fun _ => ans_brf (ans_chkn (by omega) ans_yes))))) ?_
        simp [h0]
    · unfold B_spec_l03InOrder_l0
      exact br_neg (by simp) _ _
  unfold F_spec_l03InOrder
  exact ans_bnd_end key rfl rfl
theorem listP_strict {l : List DVersion} (h : ListP l) : Strict l := strict_adj l fun i hi => by simpa using (h (i + 1) hi).2 (by omega)
theorem listP_iff {l : List DVersion} : ListP l ↔ (∀ v ∈ l, VerP v) ∧ Strict l := by
  constructor
  · intro h
    refine ⟨fun v hv => ?_, listP_strict h⟩
    obtain ⟨i, hi, rfl⟩ := List.getElem_of_mem hv
    have := (h i hi).1
    rwa [getD_lt hi] at this
  · rintro ⟨h1, h2⟩ i hi
    refine ⟨h1 _ (by rw [getD_lt hi]; exact List.getElem_mem hi), fun h0 => ?_⟩
    have := adj_strict h2 (i - 1) (by omega)
    rwa [show i - 1 + 1 = i by omega] at this
end Go.Ev.T1
