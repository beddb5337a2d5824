/- FlatOK: the reference's, both, the law. -/
import Derived.Test.YtlgmddbndbobfaaFltQ3
set_option linter.unusedSimpArgs false
set_option linter.unusedVariables false
set_option linter.unusedSectionVars false
set_option maxRecDepth 100000
namespace Go.Ev.T1
open Go Go.Proofs
variable (cs : List DColumn)
theorem specPreds (f : DFlat) (hf : f.2.1.length ≤ 1048576 ∧ ∀ p ∈ f.2.1, p.2.2.2.1.2.2.2.1.length ≤ 1048576) :
    Ans (F_spec_FlatOK_l2 f cs 0) (some (.inl (f, cs))) (some (.inr false)) (∀ i, i < f.2.1.length → PredP cs (pr f i)) := by
  have hl := hf.1
  unfold F_spec_FlatOK_l2
  refine ans_loop (fun i => (f, cs, ((i : Nat) : Int))) _ _ (fun i C hi hb => ?_) (fun C _ => ?_) (by omega)
  · have hv := hf.2 _ (mem_getD (z := ZPred) hi)
    unfold B_spec_FlatOK_l2
    simp (disch := omega) only [wrap_succ, Int.toNat_natCast]
    exact ans_chk (by omega) (ans_chk (by omega) (ans_chk (by omega) (ans_bnd_end (specPred cs _ hv) rfl rfl)))
  · unfold B_spec_FlatOK_l2
    exact br_neg (by simp) _ _
theorem specGroups (f : DFlat) (hf : f.2.2.1.length ≤ 1048576) : Ans (F_spec_FlatOK_l4 f cs 0) (some (.inl (f, cs))) (some (.inr false)) (∀ i, i < f.2.2.1.length → 0 ≤ gp f i ∧ gp f i < cs.length) := by
  unfold F_spec_FlatOK_l4
  refine ans_loop (fun i => (f, cs, ((i : Nat) : Int))) _ _ (fun i C hi hb => ?_) (fun C _ => ?_) (by omega)
  · unfold B_spec_FlatOK_l4
    simp (disch := omega) only [wrap_succ, Int.toNat_natCast]
    refine ans_iff (ans_chk (by omega) (ans_chk (by omega) (ans_chk (by omega) (ans_br_no fun _ => ans_chk (by omega) (ans_chk (by omega) (ans_br_no fun _ => ans_yes)))))) ?_
    simp only [and_true, ge_iff_le, Int.not_lt, Int.not_le]
  · unfold B_spec_FlatOK_l4
    exact br_neg (by simp) _ _
theorem specOuts (f : DFlat) (hg : f.2.2.1.length ≤ 1048576) (hf : f.2.2.2.1.length ≤ 1048576) : Ans (F_spec_FlatOK_l6 f cs 0) (some (.inl f)) (some (.inr false)) (∀ i, i < f.2.2.2.1.length → OutP cs f (ou f i)) := by
  unfold F_spec_FlatOK_l6
  refine ans_loop (fun i => (f, cs, ((i : Nat) : Int))) _ _ (fun i C hi hb => ?_) (fun C _ => ?_) (by omega)
  · unfold B_spec_FlatOK_l6
    simp (disch := omega) only [wrap_succ, Int.toNat_natCast, beq_dec, bne_dec, not_dec, br_swap]
    refine ans_iff (ans_chk (by omega) (ans_chk (by omega) (ans_chk (by omega) (ans_br_no fun b1 => ans_br_no fun b2 => ans_br (fun _ => ans_br_no fun _ => ans_bool_yes' fun _ => ans_bnd_end (specHas _ _ hg) rfl rfl) fun _ =>
      ans_br (fun _ => ans_bool_no' fun _ => ans_yes) fun _ => ans_br (fun h => ans_chk h (ans_br_no fun _ => ans_bool_no' fun _ => ans_yes)) fun _ => ans_br (fun _ => ans_br_no fun _ => ans_bool_no' fun _ => ans_yes) fun _ =>
      ans_br_no' fun _ => ans_br_no fun b3 => ans_chk (by omega) (ans_chk (by omega) (ans_br (fun _ => ans_chk (by omega) (ans_chk (by omega) (ans_br_no fun _ => ans_bool_no' fun _ => ans_yes))) fun _ => ans_bool_no' fun _ => ans_yes)))))) ?_
    unfold OutP Num kd
    simp only [ou]
    generalize f.2.2.2.1.getD i ZOut = o at *
    generalize (cs.getD o.2.1.toNat ZColumn).2.2.1 = k
    generalize (o.2.1 ∈ f.2.2.1) = q1
    generalize (f.2.2.2.2.1 = true) = q2
    generalize o.2.1 = c at *
    have hn : (0 : Int) ≤ cs.length := by omega
    generalize (cs.length : Int) = n at *
    clear hb hi hf hg
    by_cases h0 : o.1 = []
    · simp [h0]; grind
    by_cases h1 : o.1 = [99, 111, 117, 110, 116]
    · simp [h1]; grind
    by_cases h2 : o.1 = [109, 105, 110]
    · simp [h2]; grind
    by_cases h3 : o.1 = [109, 97, 120]
    · simp [h3]; grind
    by_cases h4 : o.1 = [115, 117, 109]
    · simp [h4]; grind
    · simp [h0, h1, h2, h3, h4]
  · unfold B_spec_FlatOK_l6
    exact br_neg (by simp) _ _
/-- a flat query in order -/
def FlatP (l : List DTable) (f : DFlat) : Prop := ((l.length : Int) ≤ 40 ∧ ∀ i, i < l.length → SpecCatP l i) ∧ (1 ≤ (f.1.length : Int) ∧ (f.1.length : Int) ≤ 4) ∧ (f.2.1.length : Int) ≤ 30 ∧ (1 ≤ (f.2.2.2.1.length : Int) ∧ (f.2.2.2.1.length : Int) ≤ 16) ∧ (f.2.2.1.length : Int) ≤ 16 ∧
  f.2.2.1.Nodup ∧ (∀ j, j < f.1.length → ¬ tabAt l (sc f.1 j) < 0) ∧ (∀ i, i < f.2.1.length → PredP (colsOf l f.1 f.1.length) (pr f i)) ∧ (∀ i, i < f.2.2.1.length → 0 ≤ gp f i ∧ gp f i < (colsOf l f.1 f.1.length).length) ∧
  (∀ i, i < f.2.2.2.1.length → OutP (colsOf l f.1 f.1.length) f (ou f i)) ∧ (f.2.2.2.2.1 = true ∨ f.2.2.1 = [])
theorem int_len {α : Type} (s : List α) : ((s.length : Int) = 0 ↔ s = []) := by cases s <;> simp <;> omega
variable {l : List DTable} (hl : SmTables l) {f : DFlat} (hf : Sm_Flat 1048576 f)
include hl hf
theorem specScans : Ans (F_spec_FlatOK_l0 l f 0) (some (.inl (l, f))) (some (.inr false)) (∀ j, j < f.1.length → ¬ tabAt l (sc f.1 j) < 0) := by
  have h := hf.1.1
  unfold F_spec_FlatOK_l0
  refine ans_loop (fun i => (l, f, ((i : Nat) : Int))) _ _ (fun i C hi hb => ?_) (fun C _ => ?_) (by omega)
  · unfold B_spec_FlatOK_l0
    simp (disch := omega) only [wrap_succ, Int.toNat_natCast]
    refine ans_iff (ans_chk (by omega) (ans_chk (by omega) (ans_chk (by omega) (ans_val (specTableAt hl _) (ans_br_no fun _ => ans_yes))))) ?_
    simp only [and_true]
    exact Iff.rfl
  · unfold B_spec_FlatOK_l0
    exact br_neg (by simp) _ _
theorem predsSm : f.2.1.length ≤ 1048576 ∧ ∀ p ∈ f.2.1, p.2.2.2.1.2.2.2.1.length ≤ 1048576 := ⟨hf.2.1.1, fun p hp => (hf.2.1.2 p hp).2.2.2.2.2.2⟩
theorem specFlat : Ans (F_spec_FlatOK l f) (some true) (some false) (FlatP l f) := by
  unfold F_spec_FlatOK
  simp only [beq_dec]
  refine ans_iff (ans_bnd_no (specCatalog hl) rfl fun _ => ans_br_no fun _ => ans_br_no fun h4 => ans_br_no fun _ => ans_br_no fun _ => ans_br_no fun _ => ans_br_no fun _ => ans_bnd_no (specOnce _ hf.2.2.1.1) rfl fun _ => ans_bnd_no (specScans hl hf) rfl fun hex =>
    ans_val (specCols hl f.1 (by omega) hex) (ans_bnd_no (specPreds _ f (predsSm hl hf)) rfl fun _ => ans_bnd_no (specGroups _ f hf.2.2.1.1) rfl fun _ => ans_bnd_no (specOuts _ f hf.2.2.1.1 hf.2.2.2.1) rfl fun _ => ans_bool_yes fun _ => ans_decide)) ?_
  unfold FlatP
  simp only [int_len, Int.not_lt, gt_iff_lt, and_assoc]
theorem implFlat : Ans (F_impl_FlatOK l f) (some true) (some false) (FlatP l f) := by
  unfold F_impl_FlatOK
  refine ans_iff (ans_bnd_no (implCatalog hl) rfl fun _ => ans_bnd_no (implWithin _ _ _) rfl fun h4 => ans_br_no fun _ => ans_bnd_no (implWithin _ _ _) rfl fun _ => ans_br_no fun _ => ans_bnd_no (implCols hl f.1 (by omega)) rfl fun hex =>
    ans_bnd_no (implPreds _ _ (fcOf_cols f.1 f.1.length) f (predsSm hl hf)) rfl fun _ =>
    ans_bnd_no (Y := (DFlat × (List DkFlatCol) × ((List DkFlatCol) × Unit)) ⊕ Bool) (a := .inl (f, fcOf l f.1 f.1.length, fcOf l f.1 f.1.length, ())) (b := .inr false) (P := f.2.2.1.Nodup ∧ (f.2.2.2.2.1 = true ∨ f.2.2.1 = [])) ?_ rfl fun _ =>
    ans_bnd_no (implGroups _ _ (fcOf_cols f.1 f.1.length) f hf.2.2.1.1) rfl fun _ => ans_bnd_end (implOuts _ _ (fcOf_cols f.1 f.1.length) f hf.2.2.1.1 hf.2.2.2.1) rfl rfl) ?_
  · simp only [onSum_inl, br_swap]
    refine ans_iff (ans_bnd_no (implTwiceI _ hf.2.2.1.1) rfl fun _ => ans_bool_yes fun _ => ans_br_no fun _ => ans_yes) ?_
    simp only [len_pos, Decidable.not_not, and_true]
  · rw [← catalog_iff]
    unfold FlatP
    simp only [Int.not_lt, gt_iff_lt]
    generalize (∀ i, i < l.length → SpecCatP l i) = q1
    generalize (∀ j, j < f.1.length → ¬ tabAt l (sc f.1 j) < 0) = q2
    generalize (∀ i, i < f.2.1.length → PredP (colsOf l f.1 f.1.length) (pr f i)) = q3
    generalize (∀ i, i < f.2.2.1.length → 0 ≤ gp f i ∧ gp f i < (colsOf l f.1 f.1.length).length) = q4
    generalize (∀ i, i < f.2.2.2.1.length → OutP (colsOf l f.1 f.1.length) f (ou f i)) = q5
    grind
theorem flat_same : ∃ b, F_spec_FlatOK l f = some b ∧ F_impl_FlatOK l f = some b := by
  obtain ⟨b, hb, _⟩ := ans_total (specFlat hl hf)
  exact ⟨b, hb, (ans_eq (implFlat hl hf) (specFlat hl hf) Iff.rfl).trans hb⟩
omit hl hf in
theorem law_FlatOK (a : List DLTable) (ha : a.length ≤ maxLen ∧ ∀ y ∈ a, Sm_LTable maxLen y) (b : DLFlat) (hb : Sm_LFlat maxLen b) : F_laws_FnExactFlatOK a b = some true := by
  unfold F_laws_FnExactFlatOK
  obtain ⟨r, hr, h⟩ := sz_TableS a 1048576 (by decide) (by decide) ha
  rw [hr, bnd_some']
  rcases h with rfl | ⟨r0, r1, hs⟩
  · exact br_pos (by decide) _ _
  rw [br_neg (by omega)]
  obtain ⟨q, hq, h⟩ := sz_Flat b r r0 r1 hb
  rw [hq, bnd_some']
  rcases h with rfl | ⟨q0, _, ht⟩
  · exact br_pos (by decide) _ _
  rw [br_neg (by omega)]
  have hf : Sm_Flat 1048576 b := ht
  obtain ⟨c, h1, h2⟩ := flat_same (l := a) hs hf
  simp only [to_TableS a hs, to_Flat b ht, bnd_some', h1, h2, eq_TableS (a : List DTable) hs, eq_Flat (b : DFlat) hf, beq_self_eq_true, Bool.not_true, br_false]
end Go.Ev.T1
