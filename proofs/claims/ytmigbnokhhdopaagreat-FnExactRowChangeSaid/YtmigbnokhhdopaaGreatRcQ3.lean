import Derived.Test.YtmigbnokhhdopaaGreatRcQ2
import Derived.Test.YtmigbnokhhdopaaGreatRcMk
set_option linter.unusedSimpArgs false
set_option linter.unusedVariables false
set_option maxRecDepth 100000
namespace Go.Ev.T1
open Go Go.Proofs
theorem strict_eq : ∀ {l m : List Int}, l.Pairwise (· < ·) → m.Pairwise (· < ·) → (∀ x, x ∈ l ↔ x ∈ m) → l = m
 | [], [], _, _, _ => rfl
 | [], b :: m, _, _, h => absurd ((h b).2 List.mem_cons_self) (by simp)
 | a :: l, [], _, _, h => absurd ((h a).1 List.mem_cons_self) (by simp)
 | a :: l, b :: m, hl, hm, h => by
  obtain ⟨hl1, hl2⟩ := List.pairwise_cons.1 hl
  obtain ⟨hm1, hm2⟩ := List.pairwise_cons.1 hm
  have e : a = b := by
   rcases List.mem_cons.1 ((h a).1 List.mem_cons_self) with h1 | h1
   ·exact h1
   ·rcases List.mem_cons.1 ((h b).2 List.mem_cons_self) with h2 | h2
    ·exact h2.symm
    ·have := hm1 a h1; have := hl1 b h2; omega
  subst e
  rw [strict_eq hl2 hm2 fun x => ?_]
  constructor
  ·intro hx
   rcases List.mem_cons.1 ((h x).1 (List.mem_cons_of_mem _ hx)) with h1 | h1
   ·subst h1; have := hl1 x hx; omega
   ·exact h1
  ·intro hx
   rcases List.mem_cons.1 ((h x).2 (List.mem_cons_of_mem _ hx)) with h1 | h1
   ·subst h1; have := hm1 x hx; omega
   ·exact h1
def val (t : y4q) (row : List y3q) (id : Int) : y3q := row.getD (colAt t id).toNat y19q
def has (t : y4q) (row : List y3q) (id : Int) : Bool := decide (0 ≤ colAt t id) && decide ((val t row id).1 ≠ 0)
def upto (n : Nat) : List Int := (List.range n).map fun k => ((k + 1 : Nat) : Int)
def own (t : y4q) (row : List y3q) : List Int := (upto 1000).filter (has t row)
def vals (t : y4q) (row : List y3q) (ids : List Int) : List y3q := ids.flatMap fun id => [num id, val t row id]
theorem upto_succ (n : Nat) : upto (n + 1) = upto n ++ [((n + 1 : Nat) : Int)] := by simp [upto, List.range_succ]
theorem vals_append (t : y4q) (row : List y3q) (a b : List Int) : vals t row (a ++ b) = vals t row a ++ vals t row b := by simp [vals]
theorem vals_len (t : y4q) (row : List y3q) : ∀ ids : List Int, (vals t row ids).length = 2 * ids.length
 | [] => rfl
 | a :: r => by
  have := vals_len t row r
  unfold vals at *
  simp only [List.flatMap_cons, List.length_append, List.length_cons, List.length_nil, this]
  omega
variable {t : y4q} {row : List y3q}
theorem specOwnLoop (ht : t.2.2.2.1.length ≤ 1048576) (hl : row.length = t.2.2.2.1.length) (v4 : DPair) (v6 : List UInt8) : F_u56f_l0 row t v4 v6 [] 1 = some (v4, v6, vals t row (own t row)) := by
 unfold F_u56f_l0
 refine y92q (fun i => (row, t, v4, v6, vals t row ((upto i).filter (has t row)), (((i + 1 : Nat)) : Int))) 1000 _ (fun i C h => ?_) (fun C => ?_) _ 0 (Nat.zero_le _) (by omega)
 ·unfold B_u56f_l0
  have hlt : colAt t ((i + 1 : Nat) : Int) < row.length := by rw [hl]; exact idx_lt
  have hcap : (vals t row ((upto i).filter (has t row))).length ≤ 2000 := by
   rw [vals_len]
   have := List.length_filter_le (has t row) (upto i)
   simp only [upto, List.length_map, List.length_range] at this
   simp only [upto]
   omega
  have hw : IntKind.i64.wrap (((i + 1 : Nat) : Int) + 1) = ((i + 1 + 1 : Nat) : Int) := y10q (by omega)
  rw [upto_succ, List.filter_append, vals_append]
  show br (decide (((i + 1 : Nat) : Int) ≤ 1000)) (bnd (F_u40f t ((i + 1 : Nat) : Int)) _) _ = _
  rw [y6q (by omega), show F_u40f t ((i + 1 : Nat) : Int) = some (colAt t ((i + 1 : Nat) : Int)) from specCol t _ ht, y0q]
  by_cases h0 : colAt t ((i + 1 : Nat) : Int) ≥ 0
  ·rw [y6q h0]
   rw [y6q (show 0 ≤ colAt t ((i + 1 : Nat) : Int) from h0), y6q hlt]
   simp only [y141q]
   by_cases h1 : (val t row ((i + 1 : Nat) : Int)).1 = 0
   ·have hh : has t row ((i + 1 : Nat) : Int) = false := by
     unfold has
     rw [Bool.and_eq_false_iff]
     exact .inr (decide_eq_false fun h => h h1)
    rw [y16q (fun h => h h1), hw, List.filter_cons, hh]
    simp [vals]
   ·have hh : has t row ((i + 1 : Nat) : Int) = true := by
     unfold has
     rw [Bool.and_eq_true]
     exact ⟨decide_eq_true h0, decide_eq_true h1⟩
    rw [y6q (show ¬ (row.getD (colAt t ((i + 1 : Nat) : Int)).toNat y19q).1 = 0 from h1)]
    show bnd (some (num ((i + 1 : Nat) : Int))) _ = _
    rw [y0q, y6q (show 0 ≤ colAt t ((i + 1 : Nat) : Int) from h0), y6q hlt, y6q (y124q (by simp; omega)), hw, List.filter_cons, hh]
    simp [vals, val]
  ·have hh : has t row ((i + 1 : Nat) : Int) = false := by
    unfold has
    rw [Bool.and_eq_false_iff]
    exact .inl (decide_eq_false h0)
   rw [y16q h0, hw, List.filter_cons, hh]
   simp [vals]
 ·unfold B_u56f_l0
  exact y16q (by simp) _ _
def ids (t : y4q) (row : List y3q) (n : Nat) : List Int := ((List.range n).filter fun j => decide ((row.getD j y19q).1 ≠ 0)).map fun j => (t.2.2.2.1.getD j y21q).1
theorem implOwnLoop (hr : row.length ≤ 1048576) (hl : row.length = t.2.2.2.1.length) (v4 : DPair) : F_u74f_l0 row t v4 [] row (row.length : Int) 0 = some (row, t, v4, ids t row row.length) := by
 unfold F_u74f_l0
 refine y92q (fun i => (row, t, v4, ids t row i, row, (row.length : Int), ((i : Nat) : Int))) row.length _ (fun i C h => ?_) (fun C => ?_) _ 0 (Nat.zero_le _) (by omega)
 ·unfold B_u74f_l0
  simp (disch := omega) only [y10q, Int.toNat_natCast, y141q]
  have hcap : (ids t row i).length ≤ i := by
   have := List.length_filter_le (fun j => decide ((row.getD j y19q).1 ≠ 0)) (List.range i)
   simpa [ids] using this
  have hs : ids t row (i + 1) = ids t row i ++ (if (row.getD i y19q).1 ≠ 0 then [(t.2.2.2.1.getD i y21q).1] else []) := by
   unfold ids
   rw [List.range_succ, List.filter_append, List.map_append]
   congr 1
   by_cases h1 : (row.getD i y19q).1 = 0
   ·have h2 : decide ((row.getD i y19q).1 ≠ 0) = false := decide_eq_false fun h => h h1
    rw [List.filter_cons, h2, if_neg (by simp), if_neg (by simp only [ne_eq, Decidable.not_not]; exact h1)]
    rfl
   ·simp only [List.filter_cons, h1, ne_eq, not_false_eq_true, decide_true, if_true, List.filter_nil, List.map_cons, List.map_nil]
  rw [y6q (by omega), y6q (by omega), y6q (by omega), hs]
  by_cases h1 : (row.getD i y19q).1 = 0
  ·rw [y16q (by simpa using h1), if_neg (by simpa using h1), List.append_nil]
  ·rw [y6q h1, if_pos h1, y6q (by omega), y6q (by omega), y6q (by simp [capN]; omega)]
 ·unfold B_u74f_l0
  exact y16q (by simp) _ _
theorem implValsLoop (ht : t.2.2.2.1.length ≤ 1048576) (v4 : DPair) (l : List Int) (hl : l.length ≤ 1048576) (hc : Cols t row l) : F_u74f_l2 row t v4 [] l (l.length : Int) 0 = some (row, t, v4, vals t row l) := by
 unfold F_u74f_l2
 refine y92q (fun i => (row, t, v4, vals t row (l.take i), l, (l.length : Int), ((i : Nat) : Int))) l.length _ (fun i C h => ?_) (fun C => ?_) _ 0 (Nat.zero_le _) (by omega)
 ·unfold B_u74f_l2
  obtain ⟨c1, c2⟩ := hc _ (intMem h)
  simp (disch := omega) only [y10q, Int.toNat_natCast]
  rw [y6q (by omega), y6q (by omega), y6q (by omega)]
  show bnd (some (num (l.getD i zInt))) _ = _
  rw [y0q, implCol t _ ht, y0q, y6q c1, y6q c2, y6q (by rw [vals_len]; simp [capN]; omega)]
  have e : l.take (i + 1) = l.take i ++ [l.getD i zInt] := by
   rw [List.take_succ_eq_append_getElem h]
   simp [List.getD_eq_getElem?_getD, h]
  rw [e, vals_append]
  simp [vals, val]
 ·unfold B_u74f_l2
  rw [List.take_length]
  exact y16q (by simp) _ _
theorem own_strict : (own t row).Pairwise (· < ·) := by
 unfold own upto
 refine List.Pairwise.filter _ ?_
 rw [List.pairwise_map]
 exact List.pairwise_lt_range.imp fun h => by omega
theorem mem_own {id : Int} : id ∈ own t row ↔ (1 ≤ id ∧ id ≤ 1000) ∧ 0 ≤ colAt t id ∧ (val t row id).1 ≠ 0 := by
 unfold own upto has
 rw [List.mem_filter, List.mem_map, Bool.and_eq_true, decide_eq_true_eq, decide_eq_true_eq]
 constructor
 ·rintro ⟨⟨k, hk, rfl⟩, h⟩
  have := List.mem_range.1 hk
  exact ⟨by omega, h⟩
 ·rintro ⟨h, h2⟩
  exact ⟨⟨id.toNat - 1, List.mem_range.2 (by omega), by omega⟩, h2⟩
theorem mem_ids {id : Int} {n : Nat} : id ∈ ids t row n ↔ ∃ j, j < n ∧ (row.getD j y19q).1 ≠ 0 ∧ (t.2.2.2.1.getD j y21q).1 = id := by
 unfold ids
 simp only [List.mem_map, List.mem_filter, List.mem_range, decide_eq_true_eq]
 constructor
 ·rintro ⟨j, ⟨h1, h2⟩, h3⟩; exact ⟨j, h1, h2, h3⟩
 ·rintro ⟨j, h1, h2, h3⟩; exact ⟨j, ⟨h1, h2⟩, h3⟩
theorem sorted_ids (hT : SpecTable t) (hl : row.length = t.2.2.2.1.length) : (ids t row row.length).mergeSort (fun x y => decide (x ≤ y)) = own t row := by
 have hcol : ∀ i, i < t.2.2.2.1.length → 1 ≤ (col t i).1 ∧ (col t i).1 ≤ 1000 ∧ colAt t (col t i).1 = i := fun i hi => by
  have := hT.2.2.2.2.2.2.2.2.1 i hi
  exact ⟨this.1, this.2.1, this.2.2.2.2.2.1⟩
 have hperm := List.mergeSort_perm (ids t row row.length) (fun x y => decide (x ≤ y))
 have hnd : (ids t row row.length).Nodup := by
  unfold ids
  rw [List.Nodup, List.pairwise_map]
  refine List.Pairwise.imp_of_mem (R := (· < ·)) ?_ (List.Pairwise.filter _ List.pairwise_lt_range)
  intro a b ha hb hab he
  have ha' := List.mem_range.1 (List.mem_filter.1 ha).1
  have hb' := List.mem_range.1 (List.mem_filter.1 hb).1
  have h1 := (hcol a (by omega)).2.2
  have h2 := (hcol b (by omega)).2.2
  unfold col at h1 h2
  rw [he, h2] at h1
  omega
 refine strict_eq ?_ own_strict fun x => ?_
 ·have h1 := List.pairwise_mergeSort (le := fun x y : Int => decide (x ≤ y)) (fun a b c h1 h2 => by simp at *; omega) (fun a b => by simp; omega) (ids t row row.length)
  have h2 : ((ids t row row.length).mergeSort fun x y => decide (x ≤ y)).Pairwise (· ≠ ·) := (hperm.nodup_iff).2 hnd
  exact (h1.and h2).imp fun h => by
   have := h.1
   simp at this
   have := h.2
   omega
 ·rw [hperm.mem_iff, mem_ids, mem_own]
  constructor
  ·rintro ⟨j, hj, h1, rfl⟩
   obtain ⟨c1, c2, c3⟩ := hcol j (by omega)
   unfold col at c1 c2 c3
   refine ⟨⟨c1, c2⟩, by rw [c3]; omega, ?_⟩
   unfold val
   rw [c3, Int.toNat_natCast]
   exact h1
  ·rintro ⟨_, h1, h2⟩
   have hlt : colAt t x < t.2.2.2.1.length := idx_lt
   refine ⟨(colAt t x).toNat, by omega, h2, ?_⟩
   obtain ⟨h3, h4, _⟩ := idx_eq.1 (show idx (fun c : y12q => decide (c.1 = x)) t.2.2.2.1 = (((colAt t x).toNat : Nat) : Int) from (Int.toNat_of_nonneg h1).symm)
   simpa [List.getD_eq_getElem?_getD, h3] using h4
end Go.Ev.T1
