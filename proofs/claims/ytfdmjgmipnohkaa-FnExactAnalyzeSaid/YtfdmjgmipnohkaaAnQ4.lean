/- Analyze: the values of a column, both ways. -/
import Derived.Test.YtfdmjgmipnohkaaAnQ3
set_option linter.unusedSimpArgs false
set_option linter.unusedVariables false
set_option maxRecDepth 100000
namespace Go.Ev.T1
open Go Go.Proofs
def vat (col : Int) (r : DRow) : DValue := r.1.getD col.toNat ZValue
def vals (col : Int) (rs : List DRow) : List DValue := (rs.map (vat col)).filter fun v => decide (¬ v.1 = 0)
def RowP (col : Int) (r : DRow) : Prop := col < r.1.length ∧ VOK (vat col r)
theorem take_snoc {α : Type} {l : List α} {i : Nat} {z : α} (hi : i < l.length) : l.take i ++ [l.getD i z] = l.take (i + 1) := by
  rw [List.take_add_one]; simp [List.getD_eq_getElem?_getD, hi]
theorem vals_snoc (col : Int) (rs : List DRow) (i : Nat) (hi : i < rs.length) :
    vals col (rs.take (i + 1)) = if (vat col (rs.getD i ZRow)).1 = 0 then vals col (rs.take i) else vals col (rs.take i) ++ [vat col (rs.getD i ZRow)] := by
  rw [← take_snoc (z := ZRow) hi]
  unfold vals
  rw [List.map_append, List.filter_append]
  generalize rs.getD i ZRow = r
  by_cases h : (vat col r).1 = 0
  · rw [if_pos h]; simp [h]
  · rw [if_neg h]; simp [h]
theorem vals_len (col : Int) (rs : List DRow) : (vals col rs).length ≤ rs.length := by
  unfold vals; exact Nat.le_trans (List.length_filter_le _ _) (by rw [List.length_map]; exact Nat.le_refl _)
theorem take_len (rs : List DRow) (i : Nat) : (rs.take i).length ≤ i := by rw [List.length_take]; omega
def Small (rs : List DRow) : Prop := ∀ r ∈ rs, ∀ v ∈ r.1, v.2.2.2.1.length ≤ 1048576
theorem Small.at {rs : List DRow} (h : Small rs) {i : Nat} (hi : i < rs.length) {col : Int} (h0 : 0 ≤ col) (hc : col < (rs.getD i ZRow).1.length) : (vat col (rs.getD i ZRow)).2.2.2.1.length ≤ 1048576 :=
  h _ (mem_getD hi) _ (mem_getD (by omega))
theorem specL0 (rs : List DRow) (col c : Int) (v6 v8 : DHist) (n : Int) (hc : 0 ≤ col) (hl : rs.length ≤ 2000) (hs : Small rs) :
    Ans (F_spec_Analyze_l0 rs col c v6 v8 [] (n, 0, 0, [], [], ()) 0) (some (.inl (c, v6, v8, vals col rs, n, (rs.length : Int) - ((vals col rs).length : Int), 0, [], [], ()))) (some (.inr (v8, 1)))
      (∀ j, j < rs.length → RowP col (rs.getD j ZRow)) := by
  unfold F_spec_Analyze_l0
  refine ans_loop (fun i => (rs, col, c, v6, v8, vals col (rs.take i), (n, (i : Int) - ((vals col (rs.take i)).length : Int), 0, [], [], ()), ((i : Nat) : Int))) rs.length (fun j => RowP col (rs.getD j ZRow)) (fun i C hi hb => ?_) (fun C _ => ?_) (by omega)
  · unfold B_spec_Analyze_l0
    simp (disch := omega) only [wrap_succ, Int.toNat_natCast]
    have hq := vals_len col (rs.take i)
    have ht := take_len rs i
    refine ans_iff (ans_chk (by omega) (ans_chk (by omega) (ans_chk (by omega) (ans_br_no fun h => ans_chk (by omega) (ans_chk (by omega) (ans_chk hc (ans_chk (by omega) (ans_bnd_no (Q := True) (specValue _ (hs.at hi hc (by omega))) rfl fun hv => ?_)))))))) ?_
    · refine ans_end ?_
      have hvat : (rs.getD i ZRow).1.getD col.toNat ZValue = vat col (rs.getD i ZRow) := rfl
      rw [hvat, show (!true) = false from rfl, br_false, br_pos (by omega), br_pos (by omega), br_pos hc, br_pos (by omega), beq_dec, vals_snoc col rs i hi]
      by_cases h0 : (vat col (rs.getD i ZRow)).1 = 0
      · rw [br_pos h0, if_pos h0, wrap_eq (by omega) (by omega)]
        congr 1
        simp only [Prod.mk.injEq, true_and, and_true]
        omega
      · rw [br_neg h0, br_pos (by omega), br_pos (by omega), br_pos hc, br_pos (by omega), br_pos (by simp only [List.length_singleton, capN]; omega), if_neg h0]
        congr 1
        simp only [Prod.mk.injEq, true_and, and_true, List.length_append, List.length_singleton]
        omega
    · unfold RowP
      rw [and_true]
      exact ⟨fun h => ⟨by omega, h.2⟩, fun h => ⟨by omega, h.2⟩⟩
  · unfold B_spec_Analyze_l0
    rw [List.take_length]
    exact br_neg (Int.lt_irrefl _) _ _
theorem implL0 (rs : List DRow) (col c : Int) (v6 : DHist) (hc : 0 ≤ col) (hl : rs.length ≤ 2000) (hs : Small rs) :
    Ans (F_impl_Analyze_l0 rs col c v6 [] rs rs.length 0) (some (.inl (rs, c, v6, vals col rs))) (some (.inr ((0, 0, 0, [], [], ()), 1)))
      (∀ j, j < rs.length → RowP col (rs.getD j ZRow)) := by
  unfold F_impl_Analyze_l0
  refine ans_loop (fun i => (rs, col, c, v6, vals col (rs.take i), rs, (rs.length : Int), ((i : Nat) : Int))) rs.length (fun j => RowP col (rs.getD j ZRow)) (fun i C hi hb => ?_) (fun C _ => ?_) (by omega)
  · unfold B_impl_Analyze_l0
    simp (disch := omega) only [wrap_succ, Int.toNat_natCast]
    have hq := vals_len col (rs.take i)
    have ht := take_len rs i
    refine ans_iff (ans_chk (by omega) (ans_chk (by omega) (ans_chk (by omega) (ans_chkn (by omega) (ans_br_no fun h => ans_chk hc (ans_chk (by omega) (ans_bnd_no (Q := True) (implValue _ (hs.at hi hc (by omega))) rfl fun hv => ?_))))))) ?_
    · refine ans_end ?_
      have hvat : (rs.getD i ZRow).1.getD col.toNat ZValue = vat col (rs.getD i ZRow) := rfl
      rw [hvat, show (!true) = false from rfl, br_false, br_pos hc, br_pos (by omega), bne_dec, vals_snoc col rs i hi]
      by_cases h0 : (vat col (rs.getD i ZRow)).1 = 0
      · rw [br_neg (fun h => h h0), if_pos h0]
      · rw [br_pos h0, br_pos (by simp only [List.length_singleton, capN]; omega), if_neg h0]
    · unfold RowP
      rw [and_true]
      exact ⟨fun h => ⟨by omega, h.2⟩, fun h => ⟨by omega, h.2⟩⟩
  · unfold B_impl_Analyze_l0
    rw [List.take_length]
    exact br_neg (Int.lt_irrefl _) _ _
end Go.Ev.T1
