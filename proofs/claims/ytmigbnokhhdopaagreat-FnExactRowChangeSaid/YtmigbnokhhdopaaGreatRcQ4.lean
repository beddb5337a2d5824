import Derived.Test.YtmigbnokhhdopaaGreatRcQ3
set_option linter.unusedSimpArgs false
set_option linter.unusedVariables false
set_option maxRecDepth 100000
namespace Go.Ev.T1
open Go Go.Proofs
variable {t : y4q} {row : List y3q}
noncomputable def y65q (t : y4q) (row : List y3q) : DPair × Int :=
 if (vals t row (own t row)).length ≤ 16 then ((key t row, (vals t row (own t row)).flatMap encV, ()), 0) else (([], [], ()), 9)
theorem cols_of (hl : row.length = t.2.2.2.1.length) {need : Bool} {l : List Int} (h : ∀ j, j < l.length → ColIs t need (l.getD j zInt)) : Cols t row l := by
 intro id hid
 obtain ⟨j, hj, rfl⟩ := List.mem_iff_getElem.1 hid
 have := (h j hj).1
 rw [show l.getD j zInt = l[j] by simp [List.getD_eq_getElem?_getD, hj]] at this
 exact ⟨by omega, by rw [hl]; exact idx_lt⟩
theorem own_cols (hl : row.length = t.2.2.2.1.length) : Cols t row (own t row) := fun id hid => ⟨(mem_own.1 hid).2.1, by rw [hl]; exact idx_lt⟩
theorem val_mem (hl : row.length = t.2.2.2.1.length) {id : Int} (h : 0 ≤ colAt t id) : val t row id ∈ row := by
 have hlt : colAt t id < t.2.2.2.1.length := idx_lt
 exact rowMem (by omega)
theorem vals_vok (hf : RowFits t row) : ∀ v ∈ vals t row (own t row), VOK v := by
 intro v hv
 obtain ⟨id, hid, hm⟩ := List.mem_flatMap.1 hv
 obtain ⟨h1, h2, h3⟩ := mem_own.1 hid
 simp only [List.mem_cons, List.not_mem_nil, or_false] at hm
 rcases hm with rfl | rfl
 ·exact .inr (.inr (.inl ⟨rfl, by show _ ≤ id; omega, by show id ≤ _; omega, rfl, rfl⟩))
 ·have hlt : colAt t id < t.2.2.2.1.length := idx_lt
  exact (hf.2 (colAt t id).toNat (by have := hf.1; omega)).1
theorem specOwn (ht : t.2.2.2.1.length ≤ 1048576) (hr : SmRow row) (hT : SpecTable t) (hf : RowFits t row) : F_u56f t row = some (y65q t row) := by
 have hkey := hT.2.2.2.2.2.2.2.2.2.1
 unfold F_u56f
 show bnd (some (num t.1)) (fun y1 => bnd (some (num 0)) fun y2 => bnd (F_u47f t row t.2.2.2.2.1) _) = _
 rw [y0q, y0q, specPick ht _ (by have := hkey.2.1; omega) (cols_of hf.1 hkey.2.2.2), y0q, y6q (y124q (by rw [pick_len]; have := hkey.2.1; simp; omega)), specKey _ (nums_sm _ _ (pick_sm hr.2 _)), y0q, specOwnLoop ht hf.1, y0q]
 dsimp only
 have hvv := vals_vok hf
 rw [specKey _ (fun v hv => by rcases hvv v hv with h | h | h | h | h | h <;> first | (rw [h.2.2.2]; decide) | (rw [h.2.2.2.2]; decide) | (rw [h.2.2.2.2.2.2]; decide) | (have := h.2.2.2.2; omega)), y0q]
 unfold y65q
 by_cases h16 : (vals t row (own t row)).length ≤ 16
 ·rw [if_pos h16, KB_pos h16 hvv]
  have hle := flat_le' _ hvv
  show br (decide (((List.flatMap encV (vals t row (own t row))).length : Int) > 4000)) _ _ = _
  rw [y16q (by omega)]
  rfl
 ·rw [if_neg h16, KB_neg (fun h => h16 h.1)]
  rfl
theorem implOwn (ht : t.2.2.2.1.length ≤ 1048576) (hr : SmRow row) (hT : SpecTable t) (hf : RowFits t row) : F_u74f t row = some (y65q t row) := by
 have hkey := hT.2.2.2.2.2.2.2.2.2.1
 unfold F_u74f
 rw [implOwnLoop hr.1 hf.1, y0q]
 have hlen : (ids t row row.length).length ≤ 1048576 := by
  have := List.length_filter_le (fun j => decide ((row.getD j y19q).1 ≠ 0)) (List.range row.length)
  rw [List.length_range] at this
  unfold ids
  rw [List.length_map]
  have := hr.1
  omega
 rw [show slices_Sort 0 (ids t row row.length) = some (own t row) by
  unfold slices_Sort
  rw [if_pos (by omega), sorted_ids hT hf.1], y0q]
 have hol : (own t row).length ≤ 1048576 := by
  rw [← sorted_ids hT hf.1, List.length_mergeSort]
  exact hlen
 rw [implValsLoop ht _ _ hol (own_cols hf.1), y0q]
 dsimp only
 have hvv := vals_vok hf
 unfold y65q
 by_cases h16 : (vals t row (own t row)).length ≤ 16
 ·rw [y16q (by omega), implPlace ht hr.2 hkey.2.1 (cols_of hf.1 hkey.2.2.2), y0q]
  unfold F_u68f
  rw [implKey _ (fun v hv => by rcases hvv v hv with h | h | h | h | h | h <;> first | (rw [h.2.2.2]; decide) | (rw [h.2.2.2.2]; decide) | (rw [h.2.2.2.2.2.2]; decide) | (have := h.2.2.2.2; omega)), y0q, y0q, if_pos h16, KB_pos h16 hvv]
 ·rw [y6q (by omega), if_neg h16]
noncomputable def ents (t : y4q) (row : List y3q) (n : Nat) : List DPair := ((t.2.2.2.2.2.1.take n).filter fun x => decide (x.2.2.2.2.1 ≥ 2)).map fun x => entry t x row
theorem ents_succ {n : Nat} (h : n < t.2.2.2.2.2.1.length) : ents t row (n + 1) = ents t row n ++ (if (ix t n).2.2.2.2.1 ≥ 2 then [entry t (ix t n) row] else []) := by
 unfold ents
 rw [List.take_succ_eq_append_getElem h, List.filter_append, List.map_append]
 congr 1
 have e : t.2.2.2.2.2.1[n] = ix t n := by simp [ix, List.getD_eq_getElem?_getD, h]
 rw [e]
 by_cases h1 : (ix t n).2.2.2.2.1 ≥ 2
 ·rw [List.filter_cons, decide_eq_true h1, if_pos h1]; rfl
 ·rw [List.filter_cons, decide_eq_false h1, if_neg h1]; rfl
theorem ents_le (n : Nat) : (ents t row n).length ≤ n := by
 unfold ents
 rw [List.length_map]
 have := List.length_filter_le (fun x : y13q => decide (x.2.2.2.2.1 ≥ 2)) (t.2.2.2.2.2.1.take n)
 rw [List.length_take] at this
 omega
theorem specPairsLoop (ht : t.2.2.2.1.length ≤ 1048576) (hr : SmRow row) (hT : SpecTable t) (hf : RowFits t row) (p : DPair) : F_u57f_l0 row t [p] 0 = some (p :: ents t row t.2.2.2.2.2.1.length) := by
 have hkey := hT.2.2.2.2.2.2.2.2.2.1
 have h8 := hT.2.2.2.2.2.2.2.1
 unfold F_u57f_l0
 refine y92q (fun i => (row, t, p :: ents t row i, ((i : Nat) : Int))) t.2.2.2.2.2.1.length _ (fun i C h => ?_) (fun C => ?_) _ 0 (Nat.zero_le _) (by omega)
 ·unfold B_u57f_l0
  have hix := hT.2.2.2.2.2.2.2.2.2.2 i h
  have hco := hix.2.2.2.2.2.1
  have hel := ents_le (t := t) (row := row) i
  rw [ents_succ h]
  simp (disch := omega) only [y10q, Int.toNat_natCast]
  rw [y6q (by omega), y6q (by omega), y6q (by omega)]
  show br (decide ((ix t i).2.2.2.2.1 ≥ 2)) _ _ = _
  by_cases h1 : (ix t i).2.2.2.2.1 ≥ 2
  ·rw [y6q h1, y6q (by omega), y6q (by omega), if_pos h1]
   show bnd (F_u54f t (ix t i) row) _ = _
   rw [specEntry ht hr.2 _ hco.2.1 hkey.2.1 (cols_of hf.1 hco.2.2.2) (cols_of hf.1 hkey.2.2.2), y0q, y6q (y124q (by simp; omega))]
   simp
  ·rw [y16q h1, if_neg h1, List.append_nil]
 ·unfold B_u57f_l0
  exact y16q (by simp) _ _
theorem implPairsLoop (ht : t.2.2.2.1.length ≤ 1048576) (hr : SmRow row) (hT : SpecTable t) (hf : RowFits t row) (p : DPair) : F_u75f_l0 row t [p] t.2.2.2.2.2.1 (t.2.2.2.2.2.1.length : Int) 0 = some (p :: ents t row t.2.2.2.2.2.1.length) := by
 have hkey := hT.2.2.2.2.2.2.2.2.2.1
 have h8 := hT.2.2.2.2.2.2.2.1
 unfold F_u75f_l0
 refine y92q (fun i => (row, t, p :: ents t row i, t.2.2.2.2.2.1, (t.2.2.2.2.2.1.length : Int), ((i : Nat) : Int))) t.2.2.2.2.2.1.length _ (fun i C h => ?_) (fun C => ?_) _ 0 (Nat.zero_le _) (by omega)
 ·unfold B_u75f_l0
  have hix := hT.2.2.2.2.2.2.2.2.2.2 i h
  have hco := hix.2.2.2.2.2.1
  have hel := ents_le (t := t) (row := row) i
  rw [ents_succ h]
  simp (disch := omega) only [y10q, Int.toNat_natCast]
  rw [y6q (by omega), y6q (by omega), y6q (by omega)]
  show br (decide ((ix t i).2.2.2.2.1 ≥ 2)) _ _ = _
  by_cases h1 : (ix t i).2.2.2.2.1 ≥ 2
  ·rw [y6q h1, if_pos h1]
   show bnd (F_u69f t (ix t i) row) _ = _
   rw [implEntry ht hr.2 _ hco.2.1 hkey.2.1 (cols_of hf.1 hco.2.2.2) (cols_of hf.1 hkey.2.2.2), y0q, y6q (y124q (by simp; omega))]
   simp
  ·rw [y16q h1, if_neg h1, List.append_nil]
 ·unfold B_u75f_l0
  exact y16q (by simp) _ _
open Classical in
noncomputable def pairsOf (t : y4q) (row : List y3q) : List DPair × Int :=
 if SpecTable t ∧ RowFits t row then (if (y65q t row).2 = 0 then ((y65q t row).1 :: ents t row t.2.2.2.2.2.1.length, 0) else ([], (y65q t row).2)) else ([], 1)
theorem implTable' (hs : Sm_Table 1048576 t) : Ans (F_u65f t) (some true) (some false) (SpecTable t) := y23q (implTable hs) (table_iff t).symm
theorem specPairs (hs : Sm_Table 1048576 t) (hr : SmRow row) : F_u57f t row = some (pairsOf t row) := by
 have ht := hs.2.2.2.1.1
 unfold F_u57f pairsOf
 by_cases hT : SpecTable t
 ·rw [(specTable hs).1 hT, y0q]
  show bnd (F_u55f t row) _ = _
  by_cases hf : RowFits t row
  ·rw [(specRowOK hr).1 hf, y0q, if_pos ⟨hT, hf⟩]
   show bnd (F_u56f t row) _ = _
   rw [specOwn ht hr hT hf, y0q]
   simp only [y141q]
   by_cases h0 : (y65q t row).2 = 0
   ·rw [y16q (fun h => h h0), specPairsLoop ht hr hT hf, y0q, if_pos h0]
   ·rw [y6q h0, if_neg h0]
  ·rw [(specRowOK hr).2 hf, y0q, if_neg (fun h => hf h.2)]
   rfl
 ·rw [(specTable hs).2 hT, y0q, if_neg (fun h => hT h.1)]
  rfl
theorem implPairs (hs : Sm_Table 1048576 t) (hr : SmRow row) : F_u75f t row = some (pairsOf t row) := by
 have ht := hs.2.2.2.1.1
 unfold F_u75f pairsOf
 by_cases hT : SpecTable t
 ·rw [(implTable' hs).1 hT, y0q]
  show bnd (F_u72f t row) _ = _
  by_cases hf : RowFits t row
  ·rw [(implRowOK hr).1 hf, y0q, if_pos ⟨hT, hf⟩]
   show bnd (F_u74f t row) _ = _
   rw [implOwn ht hr hT hf, y0q]
   simp only [y141q]
   by_cases h0 : (y65q t row).2 = 0
   ·rw [y16q (fun h => h h0), implPairsLoop ht hr hT hf, y0q, if_pos h0]
   ·rw [y6q h0, if_neg h0]
  ·rw [(implRowOK hr).2 hf, y0q, if_neg (fun h => hf h.2)]
   rfl
 ·rw [(implTable' hs).2 hT, y0q, if_neg (fun h => hT h.1)]
  rfl
end Go.Ev.T1
