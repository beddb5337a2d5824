import Derived.Test.YtmigbnokhhdopaaGreatRcQ1
import Derived.Test.YtmigbnokhhdopaaGreatRcCatQ5
set_option linter.unusedSimpArgs false
set_option linter.unusedVariables false
set_option maxRecDepth 100000
namespace Go.Ev.T1
open Go Go.Proofs
def num (n : Int) : y3q := (2, n, 0, [], ())
def pick (t : y4q) (row : List y3q) (ids : List Int) : List y3q := ids.map fun id => row.getD (colAt t id).toNat y19q
def Cols (t : y4q) (row : List y3q) (ids : List Int) : Prop := ∀ id ∈ ids, 0 ≤ colAt t id ∧ colAt t id < row.length
theorem implKey (l : List y3q) (hs : ∀ v ∈ l, v.2.2.2.1.length ≤ 1048576) : u0f 0 l = some (KB l) := by
 unfold u0f chk
 rw [show (l.all fun v => Nat.ble v.2.2.2.1.length 1048576) = true from List.all_eq_true.2 fun v hv => Nat.ble_eq_true_of_le (hs v hv)]
 rfl
theorem intMem {l : List Int} {i : Nat} (hi : i < l.length) : l.getD i zInt ∈ l := by
 simp [List.getD_eq_getElem?_getD, hi]
theorem pick_next (t : y4q) (row : List y3q) (ids : List Int) {i : Nat} (hi : i < ids.length) : pick t row (ids.take i) ++ [row.getD (colAt t (ids.getD i zInt)).toNat y19q] = pick t row (ids.take (i + 1)) := by
 exact take_map (fun id => row.getD (colAt t id).toNat y19q) zInt ids hi
variable {t : y4q} {row : List y3q}
theorem specPick (ht : t.2.2.2.1.length ≤ 1048576) (ids : List Int) (hi : ids.length ≤ 1048576) (hc : Cols t row ids) : F_u47f t row ids = some (pick t row ids) := by
 unfold F_u47f
 refine Eq.trans (bnd_eq (v := pick t row ids) ?_) rfl
 unfold F_u47f_l0
 refine y92q (fun i => (row, ids, t, pick t row (ids.take i), ((i : Nat) : Int))) ids.length _ (fun i C h => ?_) (fun C => ?_) _ 0 (Nat.zero_le _) (by omega)
 ·unfold B_u47f_l0
  obtain ⟨c1, c2⟩ := hc _ (intMem h)
  simp (disch := omega) only [y10q, Int.toNat_natCast]
  rw [y6q (by omega), y6q (by omega), y6q (by omega), specCol t _ ht, y0q]
  show br (decide (0 ≤ colAt t (ids.getD i zInt))) (br (decide (colAt t (ids.getD i zInt) < _)) _ _) _ = _
  rw [y6q c1, y6q c2, y6q (by simp [pick, capN]; omega)]
  show C (row, ids, t, pick t row (ids.take i) ++ [row.getD (colAt t (ids.getD i zInt)).toNat y19q], _) = _
  rw [pick_next t row ids h]
 ·unfold B_u47f_l0
  rw [List.take_length]
  exact y16q (by simp) _ _
theorem implPick (ht : t.2.2.2.1.length ≤ 1048576) (ids : List Int) (hi : ids.length ≤ 1048576) (hc : Cols t row ids) : F_u67f t row ids = some (pick t row ids) := by
 unfold F_u67f
 refine Eq.trans (bnd_eq (v := pick t row ids) ?_) rfl
 unfold F_u67f_l0
 refine y92q (fun i => (row, t, pick t row (ids.take i), ids, (ids.length : Int), ((i : Nat) : Int))) ids.length _ (fun i C h => ?_) (fun C => ?_) _ 0 (Nat.zero_le _) (by omega)
 ·unfold B_u67f_l0
  obtain ⟨c1, c2⟩ := hc _ (intMem h)
  simp (disch := omega) only [y10q, Int.toNat_natCast]
  rw [y6q (by omega), y6q (by omega), y6q (by omega), implCol t _ ht, y0q, y6q c1, y6q c2, y6q (by simp [pick, capN]; omega), pick_next t row ids h]
 ·unfold B_u67f_l0
  rw [List.take_length]
  exact y16q (by simp) _ _
def SmRow (row : List y3q) : Prop := row.length ≤ 1048576 ∧ ∀ v ∈ row, v.2.2.2.1.length ≤ 1048576
theorem pick_sm (hr : ∀ v ∈ row, v.2.2.2.1.length ≤ 1048576) (ids : List Int) : ∀ v ∈ pick t row ids, v.2.2.2.1.length ≤ 1048576 := by
 intro v hv
 obtain ⟨id, _, rfl⟩ := List.mem_map.1 hv
 by_cases h : (colAt t id).toNat < row.length
 ·simp only [List.getD_eq_getElem?_getD, List.getElem?_eq_getElem h, Option.getD_some]
  exact hr _ (List.getElem_mem h)
 ·simp only [List.getD_eq_getElem?_getD, List.getElem?_eq_none (Nat.not_lt.1 h), Option.getD_none]
  decide
theorem nums_sm (a b : Int) {l : List y3q} (hl : ∀ v ∈ l, v.2.2.2.1.length ≤ 1048576) : ∀ v ∈ [num a, num b] ++ l, v.2.2.2.1.length ≤ 1048576 := by
 intro v hv
 rcases List.mem_append.1 hv with h | h
 ·simp only [List.mem_cons, List.not_mem_nil, or_false] at h
  rcases h with rfl | rfl <;> simp [num]
 ·exact hl v h
noncomputable def entry (t : y4q) (x : y13q) (row : List y3q) : DPair := ((KB ([num t.1, num x.1] ++ pick t row x.2.2.1 ++ pick t row t.2.2.2.2.1)).1, [], ())
theorem pick_len (ids : List Int) : (pick t row ids).length = ids.length := by simp [pick]
theorem entry_sm (hr : ∀ v ∈ row, v.2.2.2.1.length ≤ 1048576) (a b : Int) (k1 k2 : List Int) : ∀ v ∈ [num a, num b] ++ pick t row k1 ++ pick t row k2, v.2.2.2.1.length ≤ 1048576 := by
 intro v hv
 rcases List.mem_append.1 hv with h | h
 ·exact nums_sm a b (pick_sm hr k1) v h
 ·exact pick_sm hr k2 v h
theorem specEntry (ht : t.2.2.2.1.length ≤ 1048576) (hr : ∀ v ∈ row, v.2.2.2.1.length ≤ 1048576) (x : y13q) (h1 : x.2.2.1.length ≤ 16) (h2 : t.2.2.2.2.1.length ≤ 16) (c1 : Cols t row x.2.2.1) (c2 : Cols t row t.2.2.2.2.1) :
  F_u54f t x row = some (entry t x row) := by
 unfold F_u54f
 show bnd (some (num t.1)) (fun y1 => bnd (some (num x.1)) fun y2 => bnd (F_u47f t row x.2.2.1) _) = _
 rw [y0q, y0q, specPick ht _ (by omega) c1, y0q, y6q (y124q (by rw [pick_len]; simp; omega)), specPick ht _ (by omega) c2, y0q, y6q (y124q (by rw [pick_len, List.length_append, pick_len]; simp; omega)), specKey _ (entry_sm hr _ _ _ _), y0q]
 rfl
theorem implEntry (ht : t.2.2.2.1.length ≤ 1048576) (hr : ∀ v ∈ row, v.2.2.2.1.length ≤ 1048576) (x : y13q) (h1 : x.2.2.1.length ≤ 16) (h2 : t.2.2.2.2.1.length ≤ 16) (c1 : Cols t row x.2.2.1) (c2 : Cols t row t.2.2.2.2.1) :
  F_u69f t x row = some (entry t x row) := by
 unfold F_u69f
 show bnd (some (num t.1)) (fun y1 => bnd (some (num x.1)) fun y2 => bnd (F_u67f t row x.2.2.1) _) = _
 rw [y0q, y0q, implPick ht _ (by omega) c1, y0q, y6q (y124q (by rw [pick_len]; simp; omega)), implPick ht _ (by omega) c2, y0q, y6q (y124q (by rw [pick_len, List.length_append, pick_len]; simp; omega))]
 unfold F_u68f
 rw [implKey _ (entry_sm hr _ _ _ _)]
 rfl
noncomputable def key (t : y4q) (row : List y3q) : List UInt8 := (KB ([num t.1, num 0] ++ pick t row t.2.2.2.2.1)).1
theorem implPlace (ht : t.2.2.2.1.length ≤ 1048576) (hr : ∀ v ∈ row, v.2.2.2.1.length ≤ 1048576) (h2 : t.2.2.2.2.1.length ≤ 16) (c2 : Cols t row t.2.2.2.2.1) : F_u73f t row = some (key t row) := by
 unfold F_u73f
 show bnd (some (num t.1)) (fun y1 => bnd (some (num 0)) fun y2 => bnd (F_u67f t row t.2.2.2.2.1) _) = _
 rw [y0q, y0q, implPick ht _ (by omega) c2, y0q, y6q (y124q (by rw [pick_len]; simp; omega))]
 unfold F_u68f
 rw [implKey _ (nums_sm _ _ (pick_sm hr _))]
 rfl
def ValFits (t : y4q) (row : List y3q) (i : Nat) : Prop := VOK (row.getD i y19q) ∧ ((row.getD i y19q).1 ≠ 0 → (row.getD i y19q).1 = (t.2.2.2.1.getD i y21q).2.2.1) ∧ ((row.getD i y19q).1 = 0 → (t.2.2.2.1.getD i y21q).2.2.2.1 = false)
def RowFits (t : y4q) (row : List y3q) : Prop := row.length = t.2.2.2.1.length ∧ ∀ i, i < row.length → ValFits t row i
theorem rowMem {i : Nat} (hi : i < row.length) : row.getD i y19q ∈ row := by
 simp [List.getD_eq_getElem?_getD, hi]
theorem specRowOK (hr : SmRow row) : Ans (F_u55f t row) (some true) (some false) (RowFits t row) := by
 unfold F_u55f
 simp only [y141q]
 refine y23q (y7q fun hl => y32q (a := .inl ()) (b := .inr false) (P := ∀ i, i < row.length → ValFits t row i) ?_ rfl rfl) ?_
 ·have hl : row.length = t.2.2.2.1.length := by simp at hl; omega
  have hlen := hr.1
  unfold F_u55f_l0
  refine y46q (fun i => (row, t, ((i : Nat) : Int))) row.length (fun i => ValFits t row i) (fun i C hi hb => ?_) (fun C _ => ?_) (by omega)
  ·unfold B_u55f_l0
   simp (disch := omega) only [y10q, Int.toNat_natCast, y53q, y141q]
   refine y23q (y8q (by omega) (y8q (by omega) (y8q (by omega) (y15q (specValue _ (hr.2 _ (rowMem hi))) rfl fun hv => ans_brf (y8q (by omega) (y8q (by omega) (y72q
    (fun h0 => y8q (by omega) (y8q (by omega) (y8q (by omega) (y8q (by omega) (y7q fun hk => y8q (by omega) (y8q (by omega) (y72q (fun hz => y8q (by omega) (y8q (by omega) (y157q fun hn => y56q))) fun hz => y56q)))))))
    fun h0 => y8q (by omega) (y8q (by omega) (y72q (fun hz => y8q (by omega) (y8q (by omega) (y157q fun hn => y56q))) fun hz => y56q))))))))) ?_
   unfold ValFits
   simp only [and_true, Bool.not_eq_true]
   grind
  ·unfold B_u55f_l0
   exact y16q (by simp) _ _
 ·unfold RowFits
  have : (¬ ¬ (row.length : Int) = t.2.2.2.1.length) ↔ row.length = t.2.2.2.1.length := by omega
  rw [this]
theorem implRowOK (hr : SmRow row) : Ans (F_u72f t row) (some true) (some false) (RowFits t row) := by
 unfold F_u72f
 simp only [y141q]
 refine y23q (y7q fun hl => y32q (a := .inl ()) (b := .inr false) (P := ∀ i, i < row.length → ValFits t row i) ?_ rfl rfl) ?_
 ·have hl : row.length = t.2.2.2.1.length := by simp at hl; omega
  have hlen := hr.1
  unfold F_u72f_l0
  refine y46q (fun i => (t, row, (row.length : Int), ((i : Nat) : Int))) row.length (fun i => ValFits t row i) (fun i C hi hb => ?_) (fun C _ => ?_) (by omega)
  ·unfold B_u72f_l0
   simp (disch := omega) only [y10q, Int.toNat_natCast, y53q, y141q]
   refine y23q (y8q (by omega) (y8q (by omega) (y8q (by omega) (y15q (implValue _ (hr.2 _ (rowMem hi))) rfl fun hv => ans_brf (y72q
    (fun h0 => y8q (by omega) (y8q (by omega) (y7q fun hk => y72q (fun hz => y8q (by omega) (y8q (by omega) (y157q fun hn => y56q))) fun hz => y56q)))
    fun h0 => y72q (fun hz => y8q (by omega) (y8q (by omega) (y157q fun hn => y56q))) fun hz => y56q))))) ?_
   unfold ValFits
   simp only [and_true, Bool.not_eq_true]
   grind
  ·unfold B_u72f_l0
   exact y16q (by simp) _ _
 ·unfold RowFits
  have : (¬ ¬ (row.length : Int) = t.2.2.2.1.length) ↔ row.length = t.2.2.2.1.length := by omega
  rw [this]
end Go.Ev.T1
