import Derived.Test.YtmigbnokhhdopaaGreatRpQ3
set_option linter.unusedSimpArgs false
set_option linter.unusedVariables false
set_option maxRecDepth 100000
namespace Go.Ev.T1
open Go Go.Proofs
variable {t : y4q} {row : List y3q}
noncomputable def ownPair (t : y4q) (row : List y3q) : DPair × Int :=
 if (vals t row (own t row)).length ≤ 16 then ((key t row, (vals t row (own t row)).flatMap encV, ()), 0) else (([], [], ()), 9)
theorem cols_of (hl : row.length = t.2.2.2.1.length) {need : Bool} {l : List Int} (h : ∀ j, j < l.length → ColIs t need (l.getD j zInt)) : Cols t row l := by
 intro id hid
 obtain ⟨j, hj, rfl⟩ := List.mem_iff_getElem.1 hid
 have := (h j hj).1
 rw [show l.getD j zInt = l[j] by simp [List.getD_eq_getElem?_getD, hj]] at this
 exact ⟨by omega, by rw [hl]; exact idx_lt⟩
theorem own_cols (hl : row.length = t.2.2.2.1.length) : Cols t row (own t row) := fun id hid => ⟨(mem_own.1 hid).2.1, by rw [hl]; exact idx_lt⟩
theorem val_mem (hl : row.length = t.2.2.2.1.length) {id : Int} (h : 0 ≤ colAt t id) : val t row id ∈ row := by
 have hlt : colAt t id < t.2.2.2.1.length := idx_lt
 exact rowMem (by omega)
theorem vals_vok (hf : RowFits t row) : ∀ v ∈ vals t row (own t row), VOK v := by
 intro v hv
 obtain ⟨id, hid, hm⟩ := List.mem_flatMap.1 hv
 obtain ⟨h1, h2, h3⟩ := mem_own.1 hid
 simp only [List.mem_cons, List.not_mem_nil, or_false] at hm
 rcases hm with rfl | rfl
 ·exact .inr (.inr (.inl ⟨rfl, by show _ ≤ id; omega, by show id ≤ _; omega, rfl, rfl⟩))
 ·have hlt : colAt t id < t.2.2.2.1.length := idx_lt
  exact (hf.2 (colAt t id).toNat (by have := hf.1; omega)).1
theorem specOwn (ht : t.2.2.2.1.length ≤ 1048576) (hr : SmRow row) (hT : SpecTable t) (hf : RowFits t row) : F_u51f t row = some (ownPair t row) := by
 have hkey := hT.2.2.2.2.2.2.2.2.2.1
 unfold F_u51f
 show bnd (some (num t.1)) (fun y1 => bnd (some (num 0)) fun y2 => bnd (F_u42f t row t.2.2.2.2.1) _) = _
 rw [y1q, y1q, specPick ht _ (by have := hkey.2.1; omega) (cols_of hf.1 hkey.2.2.2), y1q, y7q (y137q (by rw [pick_len]; have := hkey.2.1; simp; omega)), specKey _ (nums_sm _ _ (pick_sm hr.2 _)), y1q, specOwnLoop ht hf.1, y1q]
 dsimp only
 have hvv := vals_vok hf
 rw [specKey _ (fun v hv => by rcases hvv v hv with h | h | h | h | h | h <;> first | (rw [h.2.2.2]; decide) | (rw [h.2.2.2.2]; decide) | (rw [h.2.2.2.2.2.2]; decide) | (have := h.2.2.2.2; omega)), y1q]
 unfold ownPair
 by_cases h16 : (vals t row (own t row)).length ≤ 16
 ·rw [if_pos h16, KB_pos h16 hvv]
  have hle := flat_le' _ hvv
  show br (decide (((List.flatMap encV (vals t row (own t row))).length : Int) > 4000)) _ _ = _
  rw [y18q (by omega)]
  rfl
 ·rw [if_neg h16, KB_neg (fun h => h16 h.1)]
  rfl
theorem implOwn (ht : t.2.2.2.1.length ≤ 1048576) (hr : SmRow row) (hT : SpecTable t) (hf : RowFits t row) : F_u70f t row = some (ownPair t row) := by
 have hkey := hT.2.2.2.2.2.2.2.2.2.1
 unfold F_u70f
 rw [implOwnLoop hr.1 hf.1, y1q]
 have hlen : (ids t row row.length).length ≤ 1048576 := by
  have := List.length_filter_le (fun j => decide ((row.getD j y17q).1 ≠ 0)) (List.range row.length)
  rw [List.length_range] at this
  unfold ids
  rw [List.length_map]
  have := hr.1
  omega
 rw [show slices_Sort 0 (ids t row row.length) = some (own t row) by
  unfold slices_Sort
  rw [if_pos (by omega), sorted_ids hT hf.1], y1q]
 have hol : (own t row).length ≤ 1048576 := by
  rw [← sorted_ids hT hf.1, List.length_mergeSort]
  exact hlen
 rw [implValsLoop ht _ _ hol (own_cols hf.1), y1q]
 dsimp only
 have hvv := vals_vok hf
 unfold ownPair
 by_cases h16 : (vals t row (own t row)).length ≤ 16
 ·rw [y18q (by omega), implPlace ht hr.2 hkey.2.1 (cols_of hf.1 hkey.2.2.2), y1q]
  unfold F_u64f
  rw [implKey _ (fun v hv => by rcases hvv v hv with h | h | h | h | h | h <;> first | (rw [h.2.2.2]; decide) | (rw [h.2.2.2.2]; decide) | (rw [h.2.2.2.2.2.2]; decide) | (have := h.2.2.2.2; omega)), y1q, y1q, if_pos h16, KB_pos h16 hvv]
 ·rw [y7q (by omega), if_neg h16]
noncomputable def ents (t : y4q) (row : List y3q) (n : Nat) : List DPair := ((t.2.2.2.2.2.1.take n).filter fun x => decide (x.2.2.2.2.1 ≥ 2)).map fun x => entry t x row
theorem ents_succ {n : Nat} (h : n < t.2.2.2.2.2.1.length) : ents t row (n + 1) = ents t row n ++ (if (ix t n).2.2.2.2.1 ≥ 2 then [entry t (ix t n) row] else []) := by
 unfold ents
 rw [List.take_succ_eq_append_getElem h, List.filter_append, List.map_append]
 congr 1
 have e : t.2.2.2.2.2.1[n] = ix t n := by simp [ix, List.getD_eq_getElem?_getD, h]
 rw [e]
 by_cases h1 : (ix t n).2.2.2.2.1 ≥ 2
 ·rw [List.filter_cons, decide_eq_true h1, if_pos h1]; rfl
 ·rw [List.filter_cons, decide_eq_false h1, if_neg h1]; rfl
theorem ents_le (n : Nat) : (ents t row n).length ≤ n := by
 unfold ents
 rw [List.length_map]
 have := List.length_filter_le (fun x : y13q => decide (x.2.2.2.2.1 ≥ 2)) (t.2.2.2.2.2.1.take n)
 rw [List.length_take] at this
 omega
theorem specPairsLoop (ht : t.2.2.2.1.length ≤ 1048576) (hr : SmRow row) (hT : SpecTable t) (hf : RowFits t row) (p : DPair) : F_u52f_l0 row t [p] 0 = some (p :: ents t row t.2.2.2.2.2.1.length) := by
 have hkey := hT.2.2.2.2.2.2.2.2.2.1
 have h8 := hT.2.2.2.2.2.2.2.1
 unfold F_u52f_l0
 refine loop_run (fun i => (row, t, p :: ents t row i, ((i : Nat) : Int))) t.2.2.2.2.2.1.length _ (fun i C h => ?_) (fun C => ?_) _ 0 (Nat.zero_le _) (by omega)
 ·unfold B_u52f_l0
  have hix := hT.2.2.2.2.2.2.2.2.2.2 i h
  have hco := hix.2.2.2.2.2.1
  have hel := ents_le (t := t) (row := row) i
  rw [ents_succ h]
  simp (disch := omega) only [y11q, Int.toNat_natCast]
  rw [y7q (by omega), y7q (by omega), y7q (by omega)]
  show br (decide ((ix t i).2.2.2.2.1 ≥ 2)) _ _ = _
  by_cases h1 : (ix t i).2.2.2.2.1 ≥ 2
  ·rw [y7q h1, y7q (by omega), y7q (by omega), if_pos h1]
   show bnd (F_u49f t (ix t i) row) _ = _
   rw [specEntry ht hr.2 _ hco.2.1 hkey.2.1 (cols_of hf.1 hco.2.2.2) (cols_of hf.1 hkey.2.2.2), y1q, y7q (y137q (by simp; omega))]
   simp
  ·rw [y18q h1, if_neg h1, List.append_nil]
 ·unfold B_u52f_l0
  exact y18q (by simp) _ _
theorem implPairsLoop (ht : t.2.2.2.1.length ≤ 1048576) (hr : SmRow row) (hT : SpecTable t) (hf : RowFits t row) (p : DPair) : F_u71f_l0 row t [p] t.2.2.2.2.2.1 (t.2.2.2.2.2.1.length : Int) 0 = some (p :: ents t row t.2.2.2.2.2.1.length) := by
 have hkey := hT.2.2.2.2.2.2.2.2.2.1
 have h8 := hT.2.2.2.2.2.2.2.1
 unfold F_u71f_l0
 refine loop_run (fun i => (row, t, p :: ents t row i, t.2.2.2.2.2.1, (t.2.2.2.2.2.1.length : Int), ((i : Nat) : Int))) t.2.2.2.2.2.1.length _ (fun i C h => ?_) (fun C => ?_) _ 0 (Nat.zero_le _) (by omega)
 ·unfold B_u71f_l0
  have hix := hT.2.2.2.2.2.2.2.2.2.2 i h
  have hco := hix.2.2.2.2.2.1
  have hel := ents_le (t := t) (row := row) i
  rw [ents_succ h]
  simp (disch := omega) only [y11q, Int.toNat_natCast]
  rw [y7q (by omega), y7q (by omega), y7q (by omega)]
  show br (decide ((ix t i).2.2.2.2.1 ≥ 2)) _ _ = _
  by_cases h1 : (ix t i).2.2.2.2.1 ≥ 2
  ·rw [y7q h1, if_pos h1]
   show bnd (F_u65f t (ix t i) row) _ = _
   rw [implEntry ht hr.2 _ hco.2.1 hkey.2.1 (cols_of hf.1 hco.2.2.2) (cols_of hf.1 hkey.2.2.2), y1q, y7q (y137q (by simp; omega))]
   simp
  ·rw [y18q h1, if_neg h1, List.append_nil]
 ·unfold B_u71f_l0
  exact y18q (by simp) _ _
open Classical in
noncomputable def pairsOf (t : y4q) (row : List y3q) : List DPair × Int :=
 if SpecTable t ∧ RowFits t row then (if (ownPair t row).2 = 0 then ((ownPair t row).1 :: ents t row t.2.2.2.2.2.1.length, 0) else ([], (ownPair t row).2)) else ([], 1)
theorem implTable' (hs : Sm_Table 1048576 t) : Ans (F_u61f t) (some true) (some false) (SpecTable t) := y25q (implTable hs) (table_iff t).symm
theorem specPairs (hs : Sm_Table 1048576 t) (hr : SmRow row) : F_u52f t row = some (pairsOf t row) := by
 have ht := hs.2.2.2.1.1
 unfold F_u52f pairsOf
 by_cases hT : SpecTable t
 ·rw [(specTable hs).1 hT, y1q]
  show bnd (F_u50f t row) _ = _
  by_cases hf : RowFits t row
  ·rw [(specRowOK hr).1 hf, y1q, if_pos ⟨hT, hf⟩]
   show bnd (F_u51f t row) _ = _
   rw [specOwn ht hr hT hf, y1q]
   simp only [bne_dec]
   by_cases h0 : (ownPair t row).2 = 0
   ·rw [y18q (fun h => h h0), specPairsLoop ht hr hT hf, y1q, if_pos h0]
   ·rw [y7q h0, if_neg h0]
  ·rw [(specRowOK hr).2 hf, y1q, if_neg (fun h => hf h.2)]
   rfl
 ·rw [(specTable hs).2 hT, y1q, if_neg (fun h => hT h.1)]
  rfl
theorem implPairs (hs : Sm_Table 1048576 t) (hr : SmRow row) : F_u71f t row = some (pairsOf t row) := by
 have ht := hs.2.2.2.1.1
 unfold F_u71f pairsOf
 by_cases hT : SpecTable t
 ·rw [(implTable' hs).1 hT, y1q]
  show bnd (F_u68f t row) _ = _
  by_cases hf : RowFits t row
  ·rw [(implRowOK hr).1 hf, y1q, if_pos ⟨hT, hf⟩]
   show bnd (F_u70f t row) _ = _
   rw [implOwn ht hr hT hf, y1q]
   simp only [bne_dec]
   by_cases h0 : (ownPair t row).2 = 0
   ·rw [y18q (fun h => h h0), implPairsLoop ht hr hT hf, y1q, if_pos h0]
   ·rw [y7q h0, if_neg h0]
  ·rw [(implRowOK hr).2 hf, y1q, if_neg (fun h => hf h.2)]
   rfl
 ·rw [(implTable' hs).2 hT, y1q, if_neg (fun h => hT h.1)]
  rfl
end Go.Ev.T1
