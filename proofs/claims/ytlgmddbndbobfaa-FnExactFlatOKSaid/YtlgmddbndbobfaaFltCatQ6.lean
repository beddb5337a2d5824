/- CatalogOK: the lists. -/
import Derived.Test.YtlgmddbndbobfaaFltCatQ5
set_option linter.unusedSimpArgs false
set_option linter.unusedVariables false
set_option maxRecDepth 100000
namespace Go.Ev.T1
open Go Go.Proofs
def SmTables (l : List DTable) : Prop := l.length ≤ 1048576 ∧ ∀ t ∈ l, Sm_Table 1048576 t
variable {l : List DTable} (hl : SmTables l)
abbrev tb (l : List DTable) (i : Nat) : DTable := l.getD i ZTable
def ixNames (t : DTable) : List (List UInt8) := t.2.2.2.2.2.1.map (·.2.1)
include hl
theorem tbSm {i : Nat} (hi : i < l.length) : Sm_Table 1048576 (tb l i) := hl.2 _ (mem_getD hi)
theorem specTableAt (nm : List UInt8) : F_spec_l09Table l nm = some (idx (fun t => decide (t.2.1 = nm)) l) := by
  have h := hl.1
  unfold F_spec_l09Table F_spec_l09Table_l0
  refine Eq.trans (bnd_eq (idx_loop (xs := l) (z := ZTable) (B := B_spec_l09Table_l0) (fun i => (l, nm, ((i : Nat) : Int))) (fun i => .inr ((i : Nat) : Int)) (.inl ()) (fun i C hi => ?_) (fun C => ?_) (by omega))) (idx_some _ _)
  · unfold B_spec_l09Table_l0
    simp (disch := omega) only [wrap_succ, Int.toNat_natCast, beq_dec, br_if, if_pos, decide_eq_true_eq]
  · unfold B_spec_l09Table_l0
    exact br_neg (by simp) _ _
omit hl in
theorem specIndexAt {t : DTable} (ht : Sm_Table 1048576 t) (nm : List UInt8) : F_spec_l09Index t nm = some (idx (fun x => decide (x.2.1 = nm)) t.2.2.2.2.2.1) := by
  have h := ht.2.2.2.2.2.1
  unfold F_spec_l09Index F_spec_l09Index_l0
  refine Eq.trans (bnd_eq (idx_loop (xs := t.2.2.2.2.2.1) (z := ZIndex) (B := B_spec_l09Index_l0) (fun i => (nm, t, ((i : Nat) : Int))) (fun i => .inr ((i : Nat) : Int)) (.inl ()) (fun i C hi => ?_) (fun C => ?_) (by omega))) (idx_some _ _)
  · unfold B_spec_l09Index_l0
    simp (disch := omega) only [wrap_succ, Int.toNat_natCast, beq_dec, br_if, if_pos, decide_eq_true_eq]
  · unfold B_spec_l09Index_l0
    exact br_neg (by simp) _ _
omit hl in
theorem index_iff {t : DTable} (nm : List UInt8) : idx (fun x => decide (x.2.1 = nm)) t.2.2.2.2.2.1 ≥ 0 ↔ nm ∈ ixNames t := by
  rw [idx_nonneg]
  simp [ixNames, List.mem_map]
theorem specWhere (nm : List UInt8) : ∃ y, F_spec_l09Where l nm = some (idx (fun t => decide (nm ∈ ixNames t)) l, y) := by
  have h := hl.1
  unfold F_spec_l09Where F_spec_l09Where_l0
  rw [show forG B_spec_l09Where_l0 ((l.length : Int).toNat + 1) (l, nm, 0) = _ from idx_loop (xs := l) (z := ZTable) (p := fun t => decide (nm ∈ ixNames t)) (B := B_spec_l09Where_l0) (fun i => (l, nm, ((i : Nat) : Int)))
    (fun i => .inr (((i : Nat) : Int), idx (fun x => decide (x.2.1 = nm)) (tb l i).2.2.2.2.2.1)) (.inl ()) (fun i C hi => ?_) (fun C => ?_) (by omega)]
  · unfold idx
    split
    · exact ⟨_, rfl⟩
    · exact ⟨_, rfl⟩
  · unfold B_spec_l09Where_l0
    simp (disch := omega) only [wrap_succ, Int.toNat_natCast, beq_dec, br_if, if_pos, decide_eq_true_eq]
    rw [specIndexAt (tbSm hl hi), bnd_some']
    simp only [index_iff]
  · unfold B_spec_l09Where_l0
    exact br_neg (by simp) _ _
def SpecCatP (l : List DTable) (i : Nat) : Prop := SpecTable (tb l i) ∧ (0 < i → (tb l (i - 1)).1 < (tb l i).1) ∧ idx (fun t => decide (t.2.1 = (tb l i).2.1)) l = (i : Int) ∧
  ∀ k, k < (tb l i).2.2.2.2.2.1.length → idx (fun t => decide ((ix (tb l i) k).2.1 ∈ ixNames t)) l = (i : Int)
theorem spec_c2 {i : Nat} (hi : i < l.length) : Ans (F_spec_CatalogOK_l2 l (i : Int) 0) (some (.inl (l, (i : Int)))) (some (.inr false)) (∀ k, k < (tb l i).2.2.2.2.2.1.length → idx (fun t => decide ((ix (tb l i) k).2.1 ∈ ixNames t)) l = (i : Int)) := by
  have h := hl.1
  have hx := (tbSm hl hi).2.2.2.2.2.1
  simp only [tb] at hx
  unfold F_spec_CatalogOK_l2
  simp only [Int.toNat_natCast]
  refine ans_loop (fun k => (l, (i : Int), ((k : Nat) : Int))) _ _ (fun k C hk hb => ?_) (fun C _ => ?_) (by simp only [tb]; omega)
  · simp only [tb] at hk
    unfold B_spec_CatalogOK_l2
    simp (disch := omega) only [wrap_succ, Int.toNat_natCast, bne_dec]
    obtain ⟨y, hy⟩ := specWhere hl (ix (tb l i) k).2.1
    refine ans_iff (ans_chk (by omega) (ans_chk (by omega) (ans_chk (by omega) (ans_chk (by omega) (ans_chk (by omega) (ans_chk (by omega) (ans_chk (by omega) (ans_val hy (ans_br_no fun _ => ans_yes))))))))) ?_
    simp
  · unfold B_spec_CatalogOK_l2
    simp only [Int.toNat_natCast]
    rw [br_pos (by omega), br_pos (by omega)]
    exact br_neg (by simp) _ _
theorem specCatalog : Ans (F_spec_CatalogOK l) (some true) (some false) ((l.length : Int) ≤ 40 ∧ ∀ i, i < l.length → SpecCatP l i) := by
  have h := hl.1
  unfold F_spec_CatalogOK
  refine ans_iff (ans_br_no fun _ => ans_bnd_end (P := ∀ i, i < l.length → SpecCatP l i) (a := .inl ()) (b := .inr false) ?_ rfl rfl) (by simp only [gt_iff_lt, Int.not_lt])
  unfold F_spec_CatalogOK_l0
  refine ans_loop (fun i => (l, ((i : Nat) : Int))) _ _ (fun i C hi hb => ?_) (fun C _ => ?_) (by omega)
  · unfold B_spec_CatalogOK_l0
    simp (disch := omega) only [Int.toNat_natCast, wrap_eq, bne_dec]
    refine ans_iff (ans_chk (by omega) (ans_bnd_no (Y := (List DTable × Int) ⊕ Bool) (a := .inl (l, (i : Int))) (b := .inr false) (P := SpecTable (tb l i) ∧ (0 < i → (tb l (i - 1)).1 < (tb l i).1) ∧ idx (fun t => decide (t.2.1 = (tb l i).2.1)) l = (i : Int)) ?_ rfl fun _ =>
      ans_bnd_end (spec_c2 hl hi) (congrArg C (Prod.ext rfl (wrap_succ (by omega)))) rfl)) ?_
    · have e1 : ((i : Int) - 1).toNat = i - 1 := by omega
      refine ans_iff (ans_chk (by omega) (ans_chk (by omega) (ans_bnd_no (specTable (tbSm hl hi)) rfl fun _ => ans_br (fun h0 => ans_chk (by omega) (ans_chk (by omega) (ans_chk (by omega) (ans_chk (by omega) (ans_br_no fun _ => ans_chk (by omega) (ans_chk (by omega) (ans_val (specTableAt hl _) (ans_br_no fun _ => ans_yes))))))))
        fun h0 => ans_chk (by omega) (ans_chk (by omega) (ans_val (specTableAt hl _) (ans_br_no fun _ => ans_yes)))))) ?_
      simp only [and_true, Int.not_le, Decidable.not_not, gt_iff_lt, e1]
      have e2 : (0 : Int) < (i : Int) ↔ 0 < i := by omega
      rw [e2]
      constructor
      · rintro ⟨a, b, c⟩
        refine ⟨a, fun h0 => (b h0).1, ?_⟩
        by_cases h0 : 0 < i
        · exact (b h0).2
        · exact c h0
      · rintro ⟨a, b, c⟩
        exact ⟨a, fun h0 => ⟨b h0, c⟩, fun _ => c⟩
    · unfold SpecCatP
      simp only [and_assoc]
  · unfold B_spec_CatalogOK_l0
    exact br_neg (by simp) _ _
end Go.Ev.T1
