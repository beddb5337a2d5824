/- CatalogOK: the reference's TableOK. -/
import Derived.Test.YtlgmddbndbobfaaFltSz
import Derived.Test.YtlgmddbndbobfaaFltCatQ1
set_option linter.unusedSimpArgs false
set_option linter.unusedVariables false
set_option maxRecDepth 100000
namespace Go.Ev.T1
open Go Go.Proofs
theorem mem_idx {α : Type} [DecidableEq α] {xs : List α} {b : α} : xs.findIdx (fun x => decide (x = b)) < xs.length ↔ b ∈ xs := by
  rw [List.findIdx_lt_length]
  exact ⟨fun ⟨x, hx, h⟩ => by simp at h; exact h ▸ hx, fun h => ⟨b, h, by simp⟩⟩
theorem idx_some {α : Type} (p : α → Bool) (xs : List α) : (onSum (if xs.findIdx p < xs.length then (.inr ((xs.findIdx p : Nat) : Int) : Unit ⊕ Int) else .inl ()) (fun _ => some (-1)) fun y => some y) = some (idx p xs) := by
  unfold idx
  split <;> rfl
theorem specCol (t : DTable) (id : Int) (ht : t.2.2.2.1.length ≤ 1048576) : F_spec_l09Col t id = some (idx (fun c => decide (c.1 = id)) t.2.2.2.1) := by
  unfold F_spec_l09Col F_spec_l09Col_l0
  refine Eq.trans (bnd_eq (idx_loop (xs := t.2.2.2.1) (z := ZColumn) (B := B_spec_l09Col_l0) (fun i => (id, t, ((i : Nat) : Int))) (fun i => .inr ((i : Nat) : Int)) (.inl ()) (fun i C hi => ?_) (fun C => ?_) (by omega))) (idx_some _ _)
  · unfold B_spec_l09Col_l0
    simp (disch := omega) only [wrap_succ, Int.toNat_natCast, beq_dec, br_if, if_pos, decide_eq_true_eq]
  · unfold B_spec_l09Col_l0
    exact br_neg (by simp) _ _
theorem specNamed (t : DTable) (nm : List UInt8) (ht : t.2.2.2.1.length ≤ 1048576) : F_spec_l09Named t nm = some (idx (fun c => decide (c.2.1 = nm)) t.2.2.2.1) := by
  unfold F_spec_l09Named F_spec_l09Named_l0
  refine Eq.trans (bnd_eq (idx_loop (xs := t.2.2.2.1) (z := ZColumn) (B := B_spec_l09Named_l0) (fun i => (nm, t, ((i : Nat) : Int))) (fun i => .inr ((i : Nat) : Int)) (.inl ()) (fun i C hi => ?_) (fun C => ?_) (by omega))) (idx_some _ _)
  · unfold B_spec_l09Named_l0
    simp (disch := omega) only [wrap_succ, Int.toNat_natCast, beq_dec, br_if, if_pos, decide_eq_true_eq]
  · unfold B_spec_l09Named_l0
    exact br_neg (by simp) _ _
theorem specHas (xs : List Int) (n : Int) (ht : xs.length ≤ 1048576) : Ans (F_spec_l09Has xs n) (some true) (some false) (n ∈ xs) := by
  unfold F_spec_l09Has F_spec_l09Has_l0
  refine ans_val (idx_loop (xs := xs) (p := fun x => decide (x = n)) (z := zInt) (B := B_spec_l09Has_l0) (fun i => (xs, n, ((i : Nat) : Int))) (fun i => .inr true) (.inl ()) (fun i C hi => ?_) (fun C => ?_) (by omega)) ?_
  rotate_left 2
  · by_cases h : xs.findIdx (fun x => decide (x = n)) < xs.length
    · rw [if_pos h]
      exact ⟨fun _ => rfl, fun h' => absurd (mem_idx.1 h) h'⟩
    · rw [if_neg h]
      exact ⟨fun h' => absurd (mem_idx.2 h') h, fun _ => rfl⟩
  · unfold B_spec_l09Has_l0
    simp (disch := omega) only [wrap_succ, Int.toNat_natCast, beq_dec, br_if, if_pos, decide_eq_true_eq]
  · unfold B_spec_l09Has_l0
    exact br_neg (by simp) _ _
def Once {α : Type} (z : α) (xs : List α) : Prop := ∀ i, i < xs.length → ¬ xs.getD i z ∈ xs.take i
theorem once_nodup {α : Type} (z : α) (xs : List α) : Once z xs ↔ xs.Nodup := by
  unfold Once
  rw [List.Nodup, List.pairwise_iff_getElem]
  constructor
  · intro h i j hi hj hij e
    refine h j hj ?_
    rw [show xs.getD j z = xs[j] by simp [List.getD_eq_getElem?_getD, hj], ← e, List.mem_take_iff_getElem]
    exact ⟨i, by omega, rfl⟩
  · intro h i hi hm
    rw [show xs.getD i z = xs[i] by simp [List.getD_eq_getElem?_getD, hi], List.mem_take_iff_getElem] at hm
    obtain ⟨j, hj, e⟩ := hm
    exact h j i (by omega) hi (by omega) e
theorem specOnce (xs : List Int) (ht : xs.length ≤ 1048576) : Ans (F_spec_l09Once xs) (some true) (some false) xs.Nodup := by
  refine ans_iff ?_ (once_nodup zInt xs)
  unfold F_spec_l09Once F_spec_l09Once_l0
  refine ans_bnd_end (a := .inl ()) (b := .inr false) (ans_loop (fun i => (xs, ((i : Nat) : Int))) xs.length (fun i => ¬ xs.getD i zInt ∈ xs.take i) (fun i C hi hb => ?_) (fun C _ => ?_) (by omega)) rfl rfl
  · unfold B_spec_l09Once_l0
    simp (disch := omega) only [wrap_succ, Int.toNat_natCast]
    refine ans_chk (by omega) (ans_chk (by omega) (ans_chk (by omega) (ans_chk (by omega) (ans_chk (by omega) ?_))))
    exact ans_bnd_end' (specHas _ _ (by simp; omega)) rfl rfl
  · unfold B_spec_l09Once_l0
    exact br_neg (by simp) _ _
/-- the place of the column with an Id -/
def colAt (t : DTable) (id : Int) : Int := idx (fun c => decide (c.1 = id)) t.2.2.2.1
def ColIs (t : DTable) (need : Bool) (id : Int) : Prop := ¬ colAt t id < 0 ∧ (need = true → (t.2.2.2.1.getD (colAt t id).toNat ZColumn).2.2.2.1 = true)
theorem specColsOK (t : DTable) (ids : List Int) (need : Bool) (ht : t.2.2.2.1.length ≤ 1048576) (hi : ids.length ≤ 1048576) :
    Ans (F_spec_l09ColsOK t ids need) (some true) (some false) (ids ≠ [] ∧ ids.length ≤ 16 ∧ ids.Nodup ∧ ∀ j, j < ids.length → ColIs t need (ids.getD j zInt)) := by
  unfold F_spec_l09ColsOK
  simp only [beq_dec]
  refine ans_iff (ans_br_no fun h1 => ans_br_no fun h2 => ans_bnd_no (specOnce _ hi) rfl fun h3 => ans_bnd_end (P := ∀ j, j < ids.length → ColIs t need (ids.getD j zInt)) (a := .inl ()) (b := .inr false) ?_ rfl rfl) ?_
  · unfold F_spec_l09ColsOK_l0
    refine ans_loop (fun i => (ids, need, t, ((i : Nat) : Int))) ids.length _ (fun i C hi hb => ?_) (fun C _ => ?_) (by omega)
    · unfold B_spec_l09ColsOK_l0
      simp (disch := omega) only [wrap_succ, Int.toNat_natCast]
      have hlt : colAt t (ids.getD i zInt) < t.2.2.2.1.length := idx_lt
      simp only [br_swap]
      refine ans_iff (ans_chk (by omega) (ans_chk (by omega) (ans_chk (by omega) (ans_val (specCol t _ ht) (ans_br_no fun h4 => ans_bool_yes' fun h5 => ans_chk (Int.not_lt.1 h4) (ans_chk hlt (ans_bool_no' fun _ => ans_yes))))))) ?_
      simp only [and_true]
      exact Iff.rfl
    · unfold B_spec_l09ColsOK_l0
      exact br_neg (by simp) _ _
  · have : ids ≠ [] ↔ ¬ ((ids.length : Int) = 0) := by
      rw [← List.length_pos_iff]; omega
    rw [this]
    have : ids.length ≤ 16 ↔ ¬ ((ids.length : Int) > 16) := by omega
    rw [this]
end Go.Ev.T1
