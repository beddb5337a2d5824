/- FlatOK: conditions and outputs. -/
import Derived.Test.YtlgmddbndbobfaaFltQ2
set_option linter.unusedSimpArgs false
set_option linter.unusedVariables false
set_option linter.unusedSectionVars false
set_option maxRecDepth 100000
namespace Go.Ev.T1
open Go Go.Proofs
def Cmp (s : List UInt8) : Prop := s = [61] ∨ s = [60, 62] ∨ s = [60] ∨ s = [60, 61] ∨ s = [62] ∨ s = [62, 61]
theorem specCmp (s : List UInt8) : Ans (F_spec_l11Compares s) (some true) (some false) (Cmp s) := by
  unfold F_spec_l11Compares
  simp only [beq_dec]
  refine ans_iff (ans_br (fun h => ans_chk h ans_yes) fun _ => ans_br (fun h => ans_chk h ans_yes) fun _ => ans_br (fun h => ans_chk h ans_yes) fun _ => ans_br (fun h => ans_chk h ans_yes) fun _ => ans_br (fun h => ans_chk h ans_yes) fun _ => ans_br_no' fun _ => ans_yes) ?_
  unfold Cmp
  grind
theorem implCmp (s : List UInt8) : Ans (F_impl_kRel s) (some true) (some false) (Cmp s) := by
  unfold F_impl_kRel
  refine ans_iff (ans_bnd_end (implContainsS _ s (by decide)) rfl rfl) ?_
  unfold Cmp
  simp
def Num (a : Int) : Prop := a = 2 ∨ a = 3
def Alike (a b : Int) : Prop := a = b ∨ (Num a ∧ Num b)
theorem specAlike (a b : Int) : Ans (F_spec_l11KindsAlike a b) (some true) (some false) (Alike a b) := by
  unfold F_spec_l11KindsAlike Alike Num
  simp only [beq_dec]
  by_cases a2 : a = 2
  · simp only [a2, decide_true, br_true, bnd_some']
    by_cases b2 : b = 2
    · simp only [b2, decide_true, br_true, bnd_some']
      exact ans_iff ans_yes (by simp)
    · simp only [b2, decide_false, br_false, bnd_some']
      refine ans_iff (ans_br_yes fun _ => ans_decide) ?_
      grind
  · simp only [a2, decide_false, br_false, bnd_some']
    by_cases b2 : b = 2
    · simp only [b2, decide_true, br_true, bnd_some']
      refine ans_iff (ans_br_yes fun _ => ans_bool_no' fun _ => ans_yes) ?_
      simp
    · simp only [b2, decide_false, br_false, bnd_some']
      refine ans_iff (ans_br_yes fun _ => ans_bool_no' fun _ => ans_decide) ?_
      simp
theorem implNum (a : Int) : Ans (F_impl_kNumber a) (some true) (some false) (Num a) := by
  unfold F_impl_kNumber
  simp only [beq_dec]
  exact ans_br_yes fun _ => ans_decide
theorem implAlike (a b : Int) : Ans (F_impl_kAlike a b) (some true) (some false) (Alike a b) := by
  unfold F_impl_kAlike
  simp only [beq_dec]
  exact ans_br_yes fun _ => ans_bnd_no (implNum a) rfl fun _ => ans_bnd_end (implNum b) rfl rfl
def Blank (v : DValue) : Prop := v.1 = 0 ∧ v.2.1 = 0 ∧ v.2.2.1 = 0 ∧ v.2.2.2.1 = []
abbrev isNS (s : List UInt8) : Prop := s = [110, 117, 108, 108] ∨ s = [115, 111, 109, 101]
variable (cs : List DColumn)
abbrev kd (i : Int) : Int := (cs.getD i.toNat ZColumn).2.2.1
def PredP (p : DPred) : Prop := (0 ≤ p.2.1 ∧ p.2.1 < cs.length) ∧ VOK p.2.2.2.1 ∧
  ((isNS p.1 ∧ p.2.2.1 = -1 ∧ Blank p.2.2.2.1) ∨ (¬ isNS p.1 ∧ Cmp p.1 ∧ ((p.2.2.1 = -1 ∧ ¬ p.2.2.2.1.1 = 0 ∧ Alike (kd cs p.2.1) p.2.2.2.1.1) ∨ (¬ p.2.2.1 = -1 ∧ Blank p.2.2.2.1 ∧ (0 ≤ p.2.2.1 ∧ p.2.2.1 < cs.length) ∧ Alike (kd cs p.2.1) (kd cs p.2.2.1)))))
theorem specPred (p : DPred) (hp : p.2.2.2.1.2.2.2.1.length ≤ 1048576) : Ans (F_spec_l11PredOK cs p) (some true) (some false) (PredP cs p) := by
  unfold F_spec_l11PredOK
  simp only [beq_dec, bne_dec, eqI_dec, eqS_dec, andB_true, andB_dec]
  refine ans_iff (ans_br_no fun a1 => ans_br_no fun a2 => ans_br_no fun a3 => ans_br_no fun a4 => ans_bnd_no (specValue _ hp) rfl fun _ => ans_br (fun _ => ans_br_no' fun _ => ans_decide) fun _ => ans_br (fun _ => ans_br_no' fun _ => ans_decide) fun _ =>
    ans_bnd_no (specCmp _) rfl fun _ => ans_br (fun b1 => ans_br_no' fun _ => ans_chk (by omega) (ans_chk (by omega) (ans_chk (by omega) (ans_chk (by omega) (ans_bnd_end (specAlike _ _) rfl rfl))))) fun b1 => ans_br_no' fun _ => ans_chk (by omega) (ans_chk (by omega) (ans_bnd_end (specAlike _ _) rfl rfl))) ?_
  unfold PredP
  generalize VOK p.2.2.2.1 = q1
  generalize Cmp p.1 = q2
  generalize Alike (cs.getD p.2.1.toNat ZColumn).2.2.1 (cs.getD p.2.2.1.toNat ZColumn).2.2.1 = q3
  generalize Alike (cs.getD p.2.1.toNat ZColumn).2.2.1 p.2.2.2.1.1 = q4
  have e : (p.2.2.2.1.1 = 0 ∧ p.2.2.2.1.2.1 = 0 ∧ p.2.2.2.1.2.2.1 = 0 ∧ p.2.2.2.1.2.2.2.1 = []) ↔ Blank p.2.2.2.1 := Iff.rfl
  rw [e]
  generalize Blank p.2.2.2.1 = q5
  have e2 : ∀ X Y Z : Prop, ((p.1 = [110, 117, 108, 108] → X) ∧ (¬ p.1 = [110, 117, 108, 108] → (p.1 = [115, 111, 109, 101] → X) ∧ (¬ p.1 = [115, 111, 109, 101] → Z))) ↔ ((isNS p.1 ∧ X) ∨ (¬ isNS p.1 ∧ Z)) := fun X Y Z => by
    unfold isNS
    by_cases h1 : p.1 = [110, 117, 108, 108]
    · simp [h1]
    · by_cases h2 : p.1 = [115, 111, 109, 101]
      · simp [h2]
      · simp [h1, h2]
  rw [e2 _ True]
  generalize isNS p.1 = q6
  generalize (p.2.2.2.1.1 = 0) = q7
  generalize (cs.length : Int) = n
  generalize p.2.1 = x at *
  generalize p.2.2.1 = y at *
  clear e e2 hp
  by_cases hy : y = -1
  · subst hy
    grind
  · grind
variable (fc : List DkFlatCol) (hfc : fc.map (fun x => x.2.2.1) = cs)
include hfc
theorem fc_len : fc.length = cs.length := by rw [← hfc, List.length_map]
theorem fc_kd {i : Int} (h0 : 0 ≤ i) (h1 : i < fc.length) : (fc.getD i.toNat ZkFlatCol).2.2.1.2.2.1 = kd cs i := by
  have h2 : i.toNat < fc.length := by omega
  have h3 : i.toNat < cs.length := by rw [← fc_len cs fc hfc]; exact h2
  unfold kd
  rw [getD_get h2, getD_get h3]
  simp only [← hfc, List.getElem_map]
theorem implIs (c : Int) : Ans (F_impl_FlatOK_1 c fc) (some true) (some false) (0 ≤ c ∧ c < cs.length) := by
  unfold F_impl_FlatOK_1
  rw [← fc_len cs fc hfc]
  exact ans_br_no' fun _ => ans_decide
abbrev pr (f : DFlat) (i : Nat) : DPred := f.2.1.getD i ZPred
abbrev gp (f : DFlat) (i : Nat) : Int := f.2.2.1.getD i zInt
abbrev ou (f : DFlat) (i : Nat) : DOut := f.2.2.2.1.getD i ZOut
theorem implPreds (f : DFlat) (hf : f.2.1.length ≤ 1048576 ∧ ∀ p ∈ f.2.1, p.2.2.2.1.2.2.2.1.length ≤ 1048576) :
    Ans (F_impl_FlatOK_l0 f fc (fc, ()) f.2.1 (f.2.1.length : Int) 0) (some (.inl (f, fc, fc, ()))) (some (.inr false)) (∀ i, i < f.2.1.length → PredP cs (pr f i)) := by
  have hl := hf.1
  have len := fc_len cs fc hfc
  unfold F_impl_FlatOK_l0
  refine ans_loop (fun i => (f, fc, (fc, ()), f.2.1, (f.2.1.length : Int), ((i : Nat) : Int))) _ _ (fun i C hi hb => ?_) (fun C _ => ?_) (by omega)
  · have hv := hf.2 _ (mem_getD (z := ZPred) hi)
    unfold B_impl_FlatOK_l0
    simp (disch := omega) only [wrap_succ, Int.toNat_natCast, beq_dec, bne_dec, eqI_dec, eqS_dec, andB_true, andB_dec, not_dec]
    refine ans_iff (ans_chk (by omega) (ans_chk (by omega) (ans_chk (by omega) (ans_bnd_no (implIs cs fc hfc _) rfl fun a => ans_bnd_no (implValue _ hv) rfl fun _ => ans_br (fun _ => ans_br_no fun _ => ans_br_no fun _ => ans_yes) fun _ => ans_br (fun _ => ans_br_no fun _ => ans_br_no fun _ => ans_yes) fun _ =>
      ans_bnd_no (implCmp _) rfl fun _ => ans_br (fun b1 => ans_br_no fun _ => ans_chk (by omega) (ans_chk (by omega) (ans_bnd_end (implAlike _ _) rfl rfl))) fun b1 => ans_br_no fun _ => ans_bnd_no (implIs cs fc hfc _) rfl fun b2 => ans_chk (by omega) (ans_chk (by omega) (ans_chk (by omega) (ans_chk (by omega) (ans_bnd_end (implAlike _ _) rfl rfl)))))))) ?_
    unfold PredP
    have k1 := fun h0 h1 => fc_kd cs fc hfc (i := (pr f i).2.1) h0 h1
    have k2 := fun h0 h1 => fc_kd cs fc hfc (i := (pr f i).2.2.1) h0 h1
    simp only [pr] at k1 k2 ⊢
    generalize f.2.1.getD i ZPred = p at *
    rw [len] at k1 k2
    by_cases hA : 0 ≤ p.2.1 ∧ p.2.1 < (cs.length : Int)
    · rw [k1 hA.1 hA.2]
      generalize VOK p.2.2.2.1 = q1
      generalize Cmp p.1 = q2
      have e : (p.2.2.2.1.1 = 0 ∧ p.2.2.2.1.2.1 = 0 ∧ p.2.2.2.1.2.2.1 = 0 ∧ p.2.2.2.1.2.2.2.1 = []) ↔ Blank p.2.2.2.1 := Iff.rfl
      rw [e]
      generalize Alike (kd cs p.2.1) p.2.2.2.1.1 = q4
      generalize Blank p.2.2.2.1 = q5
      have e2 : ∀ X Z : Prop, ((p.1 = [110, 117, 108, 108] → X) ∧ (¬ p.1 = [110, 117, 108, 108] → (p.1 = [115, 111, 109, 101] → X) ∧ (¬ p.1 = [115, 111, 109, 101] → Z))) ↔ ((isNS p.1 ∧ X) ∨ (¬ isNS p.1 ∧ Z)) := fun X Z => by
        unfold isNS
        by_cases h1 : p.1 = [110, 117, 108, 108]
        · simp [h1]
        · by_cases h2 : p.1 = [115, 111, 109, 101]
          · simp [h2]
          · simp [h1, h2]
      rw [e2]
      generalize isNS p.1 = q6
      generalize (p.2.2.2.1.1 = 0) = q7
      by_cases hB : 0 ≤ p.2.2.1 ∧ p.2.2.1 < (cs.length : Int)
      · rw [k2 hB.1 hB.2]
        generalize Alike (kd cs p.2.1) (kd cs p.2.2.1) = q3
        simp only [hA, hB, true_and, and_self]
        generalize p.2.2.1 = y at *
        clear k1 k2 e e2 hv hb hi len hl hf hfc
        by_cases hy : y = -1
        · simp [hy]
        · simp [hy]
      · simp only [hA, hB, true_and, false_and, and_false, and_self]
        generalize p.2.2.1 = y at *
        clear k1 k2 e e2 hv hb hi len hl hf hfc
        by_cases hy : y = -1
        · simp [hy]
        · simp [hy]
    · simp [hA]
  · unfold B_impl_FlatOK_l0
    exact br_neg (by simp) _ _
theorem implGroups (f : DFlat) (hf : f.2.2.1.length ≤ 1048576) : Ans (F_impl_FlatOK_l3 f fc (fc, ()) f.2.2.1 (f.2.2.1.length : Int) 0) (some (.inl (f, fc, fc, ()))) (some (.inr false)) (∀ i, i < f.2.2.1.length → 0 ≤ gp f i ∧ gp f i < cs.length) := by
  unfold F_impl_FlatOK_l3
  refine ans_loop (fun i => (f, fc, (fc, ()), f.2.2.1, (f.2.2.1.length : Int), ((i : Nat) : Int))) _ _ (fun i C hi hb => ?_) (fun C _ => ?_) (by omega)
  · unfold B_impl_FlatOK_l3
    simp (disch := omega) only [wrap_succ, Int.toNat_natCast]
    exact ans_chk (by omega) (ans_chk (by omega) (ans_chk (by omega) (ans_bnd_end (implIs cs fc hfc _) rfl rfl)))
  · unfold B_impl_FlatOK_l3
    exact br_neg (by simp) _ _
/-- an output in order -/
def OutP (f : DFlat) (o : DOut) : Prop := (o.1 = [] ∧ (0 ≤ o.2.1 ∧ o.2.1 < cs.length) ∧ (f.2.2.2.2.1 = true → o.2.1 ∈ f.2.2.1)) ∨ (¬ o.1 = [] ∧ f.2.2.2.2.1 = true ∧
  ((o.1 = [99, 111, 117, 110, 116] ∧ (o.2.1 = -1 ∨ (0 ≤ o.2.1 ∧ o.2.1 < cs.length))) ∨ (o.1 = [115, 117, 109] ∧ (0 ≤ o.2.1 ∧ o.2.1 < cs.length) ∧ Num (kd cs o.2.1)) ∨
   ((o.1 = [109, 105, 110] ∨ o.1 = [109, 97, 120]) ∧ 0 ≤ o.2.1 ∧ o.2.1 < cs.length)))
theorem implOuts (f : DFlat) (hg : f.2.2.1.length ≤ 1048576) (hf : f.2.2.2.1.length ≤ 1048576) : Ans (F_impl_FlatOK_l5 f fc (fc, ()) f.2.2.2.1 (f.2.2.2.1.length : Int) 0) (some (.inl ())) (some (.inr false)) (∀ i, i < f.2.2.2.1.length → OutP cs f (ou f i)) := by
  have len := fc_len cs fc hfc
  unfold F_impl_FlatOK_l5
  refine ans_loop (fun i => (f, fc, (fc, ()), f.2.2.2.1, (f.2.2.2.1.length : Int), ((i : Nat) : Int))) _ _ (fun i C hi hb => ?_) (fun C _ => ?_) (by omega)
  · unfold B_impl_FlatOK_l5
    simp (disch := omega) only [wrap_succ, Int.toNat_natCast, beq_dec, bne_dec, not_dec, br_swap]
    refine ans_iff (ans_chk (by omega) (ans_chk (by omega) (ans_chk (by omega) (ans_br (fun _ => ans_bnd_no (implIs cs fc hfc _) rfl fun _ => ans_bool_yes' fun _ => ans_bnd_end (implContainsI _ _ hg) rfl rfl) fun _ => ans_bool_no' fun _ =>
      ans_br (fun _ => ans_br_yes' fun _ => ans_bnd_end (implIs cs fc hfc _) rfl rfl) fun _ => ans_br (fun _ => ans_bnd_no (implIs cs fc hfc _) rfl fun a => ans_chk (by omega) (ans_chk (by omega) (ans_bnd_end (implNum _) rfl rfl))) fun _ =>
      ans_br (fun h => ans_chk h (ans_bnd_end (implIs cs fc hfc _) rfl rfl)) fun _ => ans_br_no' fun _ => ans_bnd_end (implIs cs fc hfc _) rfl rfl)))) ?_
    unfold OutP
    have k1 := fun h0 h1 => fc_kd cs fc hfc (i := (ou f i).2.1) h0 h1
    simp only [ou] at k1 ⊢
    generalize f.2.2.2.1.getD i ZOut = o at *
    rw [len] at k1
    grind
  · unfold B_impl_FlatOK_l5
    exact br_neg (by simp) _ _
end Go.Ev.T1
