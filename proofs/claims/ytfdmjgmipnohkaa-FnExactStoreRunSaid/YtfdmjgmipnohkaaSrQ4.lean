import Derived.Test.YtfdmjgmipnohkaaSrQ3
set_option linter.unusedSimpArgs false
set_option linter.unusedVariables false
namespace Go.Ev.T1
open Go Go.Proofs
def TimeP (a : DTime) : Prop := (0 ≤ a.1 ∧ a.1 ≤ 1000000000000) ∧ 0 ≤ a.2.1 ∧ a.2.1 ≤ 1000000
theorem y93q (a : DTime) : Ans (F_u42f a) (some true) (some false) (TimeP a) := by
 unfold F_u42f TimeP
 refine y41q (y34q fun _ => y34q fun _ => y34q fun _ => ans_decide) ?_
 omega
theorem y94q (a : DTime) : Ans (F_u3f a) (some true) (some false) (TimeP a) := by
 unfold F_u3f TimeP
 refine y41q (y34q fun _ => y34q fun _ => y34q fun _ => ans_decide) ?_
 omega
def VerP (v : y0q) : Prop := 1 ≤ v.1.length ∧ v.1.length ≤ 4000 ∧ TimeP v.2.1 ∧ ¬ (v.2.1.1 = 0 ∧ v.2.1.2.1 = 0) ∧ v.2.2.2.1.length ≤ 4000 ∧ (v.2.2.1 = true → v.2.2.2.1 = [])
theorem implVer (v : y0q) : Ans (F_u46f v) (some true) (some false) (VerP v) := by
 unfold F_u46f VerP
 simp only [eqI_dec, andB_true, andB_dec, not_dec, y57q, br_swap]
 refine y41q (y34q fun _ => y34q fun _ => y42q (y93q v.2.1) rfl fun _ => ans_brt (y34q fun _ => y34q fun _ => ans_bool_yes' fun _ => ans_decide)) ?_
 constructor
 ·rintro ⟨h1, h2, h3, h4, h5, h6⟩; exact ⟨by omega, by omega, h3, h4, by omega, h6⟩
 ·rintro ⟨h1, h2, h3, h4, h5, h6⟩; exact ⟨by omega, by omega, h3, h4, by omega, h6⟩
theorem specVer (v : y0q) : Ans (F_u9f v) (some true) (some false) (VerP v) := by
 unfold F_u9f VerP
 simp only [eqI_dec, andB_true, andB_dec, not_dec, y57q, br_swap]
 refine y41q (y34q fun _ => y34q fun _ => y42q (y94q v.2.1) rfl fun _ => ans_brt (y34q fun _ => y34q fun _ => ans_bool_yes' fun _ => ans_decide)) ?_
 have e : ((v.2.2.2.1.length : Int) = 0) ↔ v.2.2.2.1 = [] := by cases v.2.2.2.1 <;> simp <;> omega
 rw [e]
 constructor
 ·rintro ⟨h1, h2, h3, h4, h5, h6⟩; exact ⟨by omega, by omega, h3, h4, by omega, h6⟩
 ·rintro ⟨h1, h2, h3, h4, h5, h6⟩; exact ⟨by omega, by omega, h3, h4, by omega, h6⟩
def StepP (l : List y0q) (i : Nat) : Prop := VerP (l.getD i y1q) ∧ (0 < i → Ahead (l.getD (i - 1) y1q) (l.getD i y1q))
def ListP (l : List y0q) : Prop := ∀ i, i < l.length → StepP l i
theorem wrap_pred {i : Nat} (h : i < 9223372036854775807) (h0 : 0 < i) : IntKind.i64.wrap ((i : Int) - 1) = ((i - 1 : Nat) : Int) := by rw [y17q (by omega) (by omega)]; omega
theorem implList (l : List y0q) (hl : l.length ≤ 1048576) : Ans (F_u47f l) (some true) (some false) (ListP l) := by
 have key : Ans (F_u47f_l0 l l ((l.length : Nat) : Int) 0) (some (.inl ())) (some (.inr false)) (ListP l) := by
  unfold F_u47f_l0 ListP
  refine ans_loop (fun i => (l, l, ((l.length : Nat) : Int), ((i : Nat) : Int))) _ _ (fun i C hi hb => ?_) (fun C _ => ?_) (by omega)
  ·unfold B_u47f_l0 StepP
   simp (disch := omega) only [y9q, Int.toNat_natCast, implBefore]
   by_cases h0 : 0 < i
   ·simp (disch := omega) only [wrap_pred, Int.toNat_natCast]
    refine y41q (y19q (by omega) (y19q (by omega) (y19q (by omega) (y42q (implVer _) rfl fun _ => ans_brf (y19q (by omega) (y19q (by omega) (y19q (by omega) (ans_val rfl (ans_bool_no fun _ => ans_yes))))))))) ?_
    simp only [Bool.not_eq_true', Bool.not_eq_false, y28q, and_true, h0, true_implies]
   ·refine y41q (y19q (by omega) (y19q (by omega) (y19q (by omega) (y42q (implVer _) rfl fun _ => ans_brf (ans_chkn (by omega) ans_yes))))) ?_
    simp [h0]
  ·unfold B_u47f_l0
   exact y11q (by simp) _ _
 unfold F_u47f
 exact ans_bnd_end key rfl rfl
theorem specList (l : List y0q) (hl : l.length ≤ 1048576) : Ans (F_u10f l) (some true) (some false) (ListP l) := by
 have key : Ans (F_u10f_l0 l 0) (some (.inl ())) (some (.inr false)) (ListP l) := by
  unfold F_u10f_l0 ListP
  refine ans_loop (fun i => (l, ((i : Nat) : Int))) _ _ (fun i C hi hb => ?_) (fun C _ => ?_) (by omega)
  ·unfold B_u10f_l0 StepP
   simp (disch := omega) only [y9q, Int.toNat_natCast, specBefore]
   by_cases h0 : 0 < i
   ·simp (disch := omega) only [wrap_pred, Int.toNat_natCast]
    refine y41q (y19q (by omega) (y19q (by omega) (y19q (by omega) (y42q (specVer _) rfl fun _ => ans_brf (y19q (by omega) (y19q (by omega) (y19q (by omega) (y19q (by omega) (y19q (by omega) (ans_val rfl (ans_bool_no fun _ => ans_yes))))))))))) ?_
    simp only [Bool.not_eq_true', Bool.not_eq_false, y28q, and_true, h0, true_implies]
   ·refine y41q (y19q (by omega) (y19q (by omega) (y19q (by omega) (y42q (specVer _) rfl fun _ => ans_brf (ans_chkn (by omega) ans_yes))))) ?_
    simp [h0]
  ·unfold B_u10f_l0
   exact y11q (by simp) _ _
 unfold F_u10f
 exact ans_bnd_end key rfl rfl
theorem y35q {l : List y0q} (h : ListP l) : Strict l := strict_adj l fun i hi => by simpa using (h (i + 1) hi).2 (by omega)
theorem listP_iff {l : List y0q} : ListP l ↔ (∀ v ∈ l, VerP v) ∧ Strict l := by
 constructor
 ·intro h
  refine ⟨fun v hv => ?_, y35q h⟩
  obtain ⟨i, hi, rfl⟩ := List.getElem_of_mem hv
  have := (h i hi).1
  rwa [y33q hi] at this
 ·rintro ⟨h1, h2⟩ i hi
  refine ⟨h1 _ (by rw [y33q hi]; exact List.getElem_mem hi), fun h0 => ?_⟩
  have := adj_strict h2 (i - 1) (by omega)
  rwa [show i - 1 + 1 = i by omega] at this
end Go.Ev.T1
