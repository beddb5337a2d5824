/- The evaluator and its soundness, part 6. -/
import Derived.Test.YticlnmiakaelkaaScEvA
import Derived.Sort.LotA
import Derived.Test.YticlnmiakaelkaaScEvC
import Derived.Shelf.GgSortMore.Lays
import Derived.Shelf.SlSortFuncK.SWK
import Derived.Deep.LoopGhost
import Derived.Shelf.GgSortFunc.LotD
import Derived.Shelf.GgSortFunc.InsertionK
import Derived.Shelf.SlSortFuncK.ComposeK
import Derived.Shelf.GgSortMore.Stable
import Derived.Shelf.GgSortFunc.SmallK
import Derived.Test.YticlnmiakaelkaaScEvE
section
/- Stable order: the library's steps on an array, as lists. -/
set_option linter.unusedSimpArgs false
set_option linter.unusedVariables false
set_option linter.unusedSectionVars false
namespace Go.Ev
open Go.Sort (swp)
section
variable {α : Type} [Inhabited α]
theorem arr_get {d : Array α} {P Q : List α} {x : α} (h : d.toList = P ++ x :: Q) : d[P.length]! = x := by
  have : d.toList[P.length]? = some x := by rw [h]; simp
  have hs : P.length < d.size := by
    rw [← Array.length_toList, h]; simp
  rw [getElem!_pos d P.length hs]
  rw [← Array.getElem_toList] 
  rw [List.getElem?_eq_getElem (by simpa using hs)] at this
  exact Option.some.inj this
theorem swp_list {d : Array α} {P M Q : List α} {x y : α} (h : d.toList = P ++ x :: (M ++ y :: Q)) {i j : Nat} (hi : i = P.length) (hj : j = P.length + 1 + M.length) : (swp d i j).toList = P ++ y :: (M ++ x :: Q) := by
  subst hi
  have hx : d[P.length]! = x := arr_get h
  have h' : d.toList = (P ++ x :: M) ++ y :: Q := by rw [h]; simp
  have hy : d[j]! = y := by
    have := arr_get h'
    rw [hj]
    simpa [Nat.add_assoc, Nat.add_comm 1] using this
  unfold swp
  rw [hx, hy]
  simp only [Array.toList_setIfInBounds]
  rw [h, List.set_append_right _ _ (Nat.le_refl _)]
  simp only [Nat.sub_self, List.set_cons_zero]
  rw [List.set_append_right _ _ (by omega), show j - P.length = M.length + 1 by omega]
  simp only [List.set_cons_succ]
  rw [List.set_append_right _ _ (Nat.le_refl _)]
  simp
theorem swp_list' {d : Array α} {P M Q : List α} {x y : α} (h : d.toList = P ++ x :: (M ++ y :: Q)) {i j : Nat} (hi : i = P.length) (hj : j = P.length + 1 + M.length) : (swp d j i).toList = P ++ y :: (M ++ x :: Q) := by
  subst hi
  have hx : d[P.length]! = x := arr_get h
  have h' : d.toList = (P ++ x :: M) ++ y :: Q := by rw [h]; simp
  have hy : d[j]! = y := by
    have := arr_get h'
    rw [hj]
    simpa [Nat.add_assoc, Nat.add_comm 1] using this
  unfold swp
  rw [hx, hy]
  simp only [Array.toList_setIfInBounds]
  rw [h, List.set_append_right _ _ (by omega), show j - P.length = M.length + 1 by omega]
  simp only [List.set_cons_succ]
  rw [List.set_append_right _ _ (Nat.le_refl _), List.set_append_right _ _ (Nat.le_refl _)]
  simp
/-- swapRange_func: k swaps left, from i on -/
def swr (a b : Nat) : Nat → Nat → Array α → Array α
  | 0, _, d => d
  | k + 1, i, d => swr a b k (i + 1) (swp d (a + i) (b + i))
theorem swr_size (a b : Nat) : ∀ (k i : Nat) (d : Array α), (swr a b k i d).size = d.size
  | 0, _, _ => rfl
  | k + 1, i, d => by rw [swr, swr_size a b k]; simp [swp]
theorem swr_list (a b : Nat) : ∀ (k i : Nat) (d : Array α) (P X M Y Q : List α), d.toList = P ++ (X ++ (M ++ (Y ++ Q))) → X.length = k → Y.length = k → a + i = P.length → b + i = P.length + X.length + M.length →
    (swr a b k i d).toList = P ++ (Y ++ (M ++ (X ++ Q)))
  | 0, i, d, P, X, M, Y, Q, h, hx, hy, _, _ => by
    have := List.eq_nil_of_length_eq_zero hx; subst this
    have := List.eq_nil_of_length_eq_zero hy; subst this
    exact h
  | k + 1, i, d, P, x :: X, M, y :: Y, Q, h, hx, hy, ha, hb => by
    simp only [List.length_cons, Nat.add_right_cancel_iff] at hx hy hb
    have h0 : d.toList = P ++ x :: ((X ++ M) ++ y :: (Y ++ Q)) := by rw [h]; simp
    have h1 := swp_list h0 (i := a + i) (j := b + i) ha (by simp; omega)
    rw [swr]
    have := swr_list a b k (i + 1) (swp d (a + i) (b + i)) (P ++ [y]) X (M ++ [x]) Y Q (by rw [h1]; simp) hx hy (by simp; omega) (by simp; omega)
    rw [this]; simp
  | k + 1, i, d, P, [], M, Y, Q, h, hx, hy, _, _ => by simp at hx
  | k + 1, i, d, P, x :: X, M, [], Q, h, hx, hy, _, _ => by simp at hy
/-- rotate_func: what it comes to -/
def rotA (d : Array α) (a m b : Nat) : Array α := (d.toList.take a ++ ((d.toList.take b).drop m ++ ((d.toList.take m).drop a ++ d.toList.drop b))).toArray
theorem rotA_list {d : Array α} {P X Y Q : List α} (h : d.toList = P ++ (X ++ (Y ++ Q))) {a m b : Nat} (ha : a = P.length) (hm : m = P.length + X.length) (hb : b = P.length + X.length + Y.length) : (rotA d a m b).toList = P ++ (Y ++ (X ++ Q)) := by
  subst ha; subst hm; subst hb
  simp only [rotA, h]
  have e1 : (P ++ (X ++ (Y ++ Q))).take P.length = P := by simp
  have e2 : (P ++ (X ++ (Y ++ Q))).take (P.length + X.length) = P ++ X := by
    rw [← List.append_assoc P X, List.take_append_of_le_length (by simp), List.take_of_length_le (by simp)]
  have e3 : (P ++ (X ++ (Y ++ Q))).take (P.length + X.length + Y.length) = (P ++ X) ++ Y := by
    rw [show P ++ (X ++ (Y ++ Q)) = ((P ++ X) ++ Y) ++ Q by simp, List.take_append_of_le_length (by simp; omega), List.take_of_length_le (by simp; omega)]
  have e4 : (P ++ (X ++ (Y ++ Q))).drop (P.length + X.length + Y.length) = Q := by
    rw [show P ++ (X ++ (Y ++ Q)) = ((P ++ X) ++ Y) ++ Q by simp, List.drop_append_of_le_length (by simp; omega), List.drop_of_length_le (by simp; omega)]
    simp
  rw [e1, e2, e3, e4]
  have e5 : ((P ++ X) ++ Y).drop (P.length + X.length) = Y := by
    rw [List.drop_append_of_le_length (by simp), List.drop_of_length_le (by simp)]; simp
  rw [e5]
  simp
theorem cut4 (l : List α) {a m b : Nat} (h1 : a ≤ m) (h2 : m ≤ b) (h3 : b ≤ l.length) : ∃ P X Y Q, l = P ++ (X ++ (Y ++ Q)) ∧ a = P.length ∧ m = P.length + X.length ∧ b = P.length + X.length + Y.length := by
  refine ⟨l.take a, (l.drop a).take (m - a), (l.drop m).take (b - m), l.drop b, ?_, by simp; omega, by simp; omega, by simp; omega⟩
  have e1 : (l.drop m).take (b - m) ++ l.drop b = l.drop m := by
    rw [show l.drop b = (l.drop m).drop (b - m) by rw [List.drop_drop]; congr 1; omega]
    exact List.take_append_drop _ _
  have e2 : (l.drop a).take (m - a) ++ l.drop m = l.drop a := by
    rw [show l.drop m = (l.drop a).drop (m - a) by rw [List.drop_drop]; congr 1; omega]
    exact List.take_append_drop _ _
  rw [e1, e2, List.take_append_drop]
theorem arr_eq {a b : Array α} (h : a.toList = b.toList) : a = b := Array.toList_inj.1 h
theorem rotA_size {d : Array α} {a m b : Nat} (h1 : a ≤ m) (h2 : m ≤ b) (h3 : b ≤ d.size) : (rotA d a m b).size = d.size := by
  obtain ⟨P, X, Y, Q, h, ha, hm, hb⟩ := cut4 d.toList h1 h2 (by simpa using h3)
  rw [← Array.length_toList, rotA_list h ha hm hb, ← Array.length_toList, h]
  simp; omega
/-- rotate_func's rounds -/
theorem rot_more {d : Array α} {m i j : Nat} (hij : j < i) (hi : i ≤ m) (hj : m + j ≤ d.size) : rotA (swr (m - i) m j 0 d) (m - (i - j)) m (m + j) = rotA d (m - i) m (m + j) := by
  obtain ⟨P, X, Y, Q, h, ha, hm, hb⟩ := cut4 d.toList (a := m - i) (m := m) (b := m + j) (by omega) (by omega) (by simpa using hj)
  have hX : X = X.take j ++ X.drop j := (List.take_append_drop j X).symm
  have l1 : (X.take j).length = j := by simp; omega
  have l2 : (X.drop j).length = i - j := by simp; omega
  generalize X.take j = X1 at hX l1
  generalize X.drop j = X2 at hX l2
  subst hX
  simp only [List.length_append] at hm hb
  apply arr_eq
  rw [rotA_list h ha (by simp; omega) (by simp; omega)]
  have hs := swr_list (m - i) m j 0 d P X1 X2 Y Q (by rw [h]; simp) l1 (by omega) (by omega) (by omega)
  rw [rotA_list (P := P ++ Y) (X := X2) (Y := X1) (Q := Q) (by rw [hs]; simp) (by simp; omega) (by simp; omega) (by simp; omega)]
  simp
theorem rot_less {d : Array α} {m i j : Nat} (hij : i < j) (hi : i ≤ m) (hj : m + j ≤ d.size) : rotA (swr (m - i) (m + j - i) i 0 d) (m - i) m (m + (j - i)) = rotA d (m - i) m (m + j) := by
  obtain ⟨P, X, Y, Q, h, ha, hm, hb⟩ := cut4 d.toList (a := m - i) (m := m) (b := m + j) (by omega) (by omega) (by simpa using hj)
  have hY : Y = Y.take (j - i) ++ Y.drop (j - i) := (List.take_append_drop _ Y).symm
  have l1 : (Y.take (j - i)).length = j - i := by simp; omega
  have l2 : (Y.drop (j - i)).length = i := by simp; omega
  generalize Y.take (j - i) = Y1 at hY l1
  generalize Y.drop (j - i) = Y2 at hY l2
  subst hY
  simp only [List.length_append] at hb
  apply arr_eq
  rw [rotA_list h ha (by omega) (by simp; omega)]
  have hs := swr_list (m - i) (m + j - i) i 0 d P X Y1 Y2 Q (by rw [h]; simp) (by omega) l2 (by omega) (by omega)
  rw [rotA_list (P := P) (X := Y2) (Y := Y1) (Q := X ++ Q) (by rw [hs]) (by omega) (by omega) (by omega)]
  simp
theorem rot_end {d : Array α} {m i : Nat} (hi : i ≤ m) (hj : m + i ≤ d.size) : swr (m - i) m i 0 d = rotA d (m - i) m (m + i) := by
  obtain ⟨P, X, Y, Q, h, ha, hm, hb⟩ := cut4 d.toList (a := m - i) (m := m) (b := m + i) (by omega) (by omega) (by simpa using hj)
  apply arr_eq
  rw [rotA_list h ha hm hb]
  have hs := swr_list (m - i) m i 0 d P X [] Y Q (by rw [h]; simp) (by omega) (by omega) (by omega) (by simp; omega)
  rw [hs]; simp
/-- symMerge_func: what it comes to -/
def mrgA (lt : α → α → Bool) (d : Array α) (a m b : Nat) : Array α := (d.toList.take a ++ (mrg lt ((d.toList.take m).drop a) ((d.toList.take b).drop m) ++ d.toList.drop b)).toArray
theorem cuts {d : Array α} {P X Y Q : List α} (h : d.toList = P ++ (X ++ (Y ++ Q))) {a m b : Nat} (ha : a = P.length) (hm : m = P.length + X.length) (hb : b = P.length + X.length + Y.length) :
    d.toList.take a = P ∧ (d.toList.take m).drop a = X ∧ (d.toList.take b).drop m = Y ∧ d.toList.drop b = Q := by
  subst ha; subst hm; subst hb
  have e2 : (P ++ (X ++ (Y ++ Q))).take (P.length + X.length) = P ++ X := by
    rw [← List.append_assoc P X, List.take_append_of_le_length (by simp), List.take_of_length_le (by simp)]
  have e3 : (P ++ (X ++ (Y ++ Q))).take (P.length + X.length + Y.length) = (P ++ X) ++ Y := by
    rw [show P ++ (X ++ (Y ++ Q)) = ((P ++ X) ++ Y) ++ Q by simp, List.take_append_of_le_length (by simp; omega), List.take_of_length_le (by simp; omega)]
  have e4 : (P ++ (X ++ (Y ++ Q))).drop (P.length + X.length + Y.length) = Q := by
    rw [show P ++ (X ++ (Y ++ Q)) = ((P ++ X) ++ Y) ++ Q by simp, List.drop_append_of_le_length (by simp; omega), List.drop_of_length_le (by simp; omega)]
    simp
  rw [h, e2, e3, e4]
  refine ⟨by simp, by simp, ?_, rfl⟩
  rw [List.drop_append_of_le_length (by simp), List.drop_of_length_le (by simp)]; simp
theorem mrgA_list (lt : α → α → Bool) {d : Array α} {P X Y Q : List α} (h : d.toList = P ++ (X ++ (Y ++ Q))) {a m b : Nat} (ha : a = P.length) (hm : m = P.length + X.length) (hb : b = P.length + X.length + Y.length) : (mrgA lt d a m b).toList = P ++ (mrg lt X Y ++ Q) := by
  obtain ⟨e1, e2, e3, e4⟩ := cuts h ha hm hb
  simp only [mrgA, e1, e2, e3, e4]
theorem mrgA_size (lt : α → α → Bool) {d : Array α} {a m b : Nat} (h1 : a ≤ m) (h2 : m ≤ b) (h3 : b ≤ d.size) : (mrgA lt d a m b).size = d.size := by
  obtain ⟨P, X, Y, Q, h, ha, hm, hb⟩ := cut4 d.toList h1 h2 (by simpa using h3)
  rw [← Array.length_toList, mrgA_list lt h ha hm hb, ← Array.length_toList, h]
  simp [mrg_length]; omega
end
end Go.Ev
end

section
/- Stable order: the library's merge in place. -/
set_option linter.unusedSimpArgs false
set_option linter.unusedVariables false
set_option linter.unusedSectionVars false
namespace Go.Ev
open Go.Sort (swp)
section
variable {α : Type} [Inhabited α] {lt : α → α → Bool}
abbrev seg (d : Array α) (a m : Nat) : List α := (d.toList.take m).drop a
theorem seg_mem {d : Array α} {a m : Nat} (hm : m ≤ d.size) {x : α} : x ∈ seg d a m ↔ ∃ i, a ≤ i ∧ i < m ∧ d[i]! = x := by
  have hg : ∀ i (hi : i < d.size), d[i]! = d.toList[i]'(by simpa using hi) := fun i hi => by rw [getElem!_pos d i hi, Array.getElem_toList]
  constructor
  · intro h
    obtain ⟨j, hj, e⟩ := List.mem_iff_getElem.1 h
    simp only [List.length_drop, List.length_take, Array.length_toList] at hj
    refine ⟨a + j, by omega, by omega, ?_⟩
    rw [hg _ (by omega), ← e]
    simp
  · rintro ⟨i, h1, h2, rfl⟩
    rw [hg _ (by omega)]
    refine List.mem_iff_getElem.2 ⟨i - a, by simp; omega, ?_⟩
    simp [show a + (i - a) = i by omega]
theorem seg_srt {d : Array α} {a m : Nat} (hm : m ≤ d.size) : Srt lt (seg d a m) ↔ ∀ i j, a ≤ i → i < j → j < m → lt d[j]! d[i]! = false := by
  have hg : ∀ i (hi : i < d.size), d[i]! = d.toList[i]'(by simpa using hi) := fun i hi => by rw [getElem!_pos d i hi, Array.getElem_toList]
  unfold Srt
  rw [List.pairwise_iff_getElem]
  constructor
  · intro h i j h1 h2 h3
    have := h (i - a) (j - a) (by simp; omega) (by simp; omega) (by omega)
    simp only [List.getElem_drop, List.getElem_take] at this
    rw [hg i (by omega), hg j (by omega)]
    simpa [show a + (i - a) = i by omega, show a + (j - a) = j by omega] using this
  · intro h i j hi hj hij
    simp only [List.length_drop, List.length_take, Array.length_toList] at hi hj
    have := h (a + i) (a + j) (by omega) (by omega) (by omega)
    rw [hg _ (by omega), hg _ (by omega)] at this
    simpa using this
/-- k swaps, upwards -/
def bubU : Nat → Nat → Array α → Array α
  | 0, _, d => d
  | c + 1, k, d => bubU c (k + 1) (swp d k (k + 1))
def bubD : Nat → Nat → Array α → Array α
  | 0, _, d => d
  | c + 1, k, d => bubD c (k - 1) (swp d k (k - 1))
theorem bubU_size : ∀ (c k : Nat) (d : Array α), (bubU c k d).size = d.size
  | 0, _, _ => rfl
  | c + 1, k, d => by rw [bubU, bubU_size c]; simp [swp]
theorem bubD_size : ∀ (c k : Nat) (d : Array α), (bubD c k d).size = d.size
  | 0, _, _ => rfl
  | c + 1, k, d => by rw [bubD, bubD_size c]; simp [swp]
theorem bubU_list : ∀ (c k : Nat) (d : Array α) (P Y R : List α) (x : α), d.toList = P ++ x :: (Y ++ R) → k = P.length → Y.length = c → (bubU c k d).toList = P ++ (Y ++ x :: R)
  | 0, k, d, P, Y, R, x, h, hk, hy => by
    have := List.eq_nil_of_length_eq_zero hy; subst this
    exact h
  | c + 1, k, d, P, y :: Y, R, x, h, hk, hy => by
    have h1 := swp_list (M := []) (by simpa using h) hk (j := k + 1) (by simp; omega)
    rw [bubU, bubU_list c (k + 1) _ (P ++ [y]) Y R x (by rw [h1]; simp) (by simp; omega) (by simpa using hy)]
    simp
  | c + 1, k, d, P, [], R, x, h, hk, hy => by simp at hy
theorem bubD_list : ∀ (c k : Nat) (d : Array α) (P X R : List α) (y : α), d.toList = P ++ (X ++ y :: R) → k = P.length + X.length → X.length = c → (bubD c k d).toList = P ++ y :: (X ++ R)
  | 0, k, d, P, X, R, y, h, hk, hx => by
    have := List.eq_nil_of_length_eq_zero hx; subst this
    exact h
  | c + 1, k, d, P, X, R, y, h, hk, hx => by
    obtain ⟨X', x, rfl⟩ : ∃ X' x, X = X' ++ [x] := ⟨X.dropLast, X.getLast (by intro e; simp [e] at hx), (List.dropLast_concat_getLast _).symm⟩
    simp only [List.length_append, List.length_cons, List.length_nil, Nat.zero_add] at hk hx
    have h0 : d.toList = (P ++ X') ++ x :: ([] ++ y :: R) := by rw [h]; simp
    have h1 := swp_list' h0 (i := k - 1) (j := k) (by simp; omega) (by simp; omega)
    rw [bubD, bubD_list c (k - 1) _ P X' (x :: R) y (by rw [h1]; simp) (by omega) (by omega)]
    simp
/-- one element ahead of a sorted range -/
theorem sym_one {d : Array α} (h : Weak lt) {a b i : Nat} (h1 : a + 1 ≤ i) (h2 : i ≤ b) (h3 : b ≤ d.size) (hl : ∀ k, a + 1 ≤ k → k < i → lt d[k]! d[a]! = true) (hr : ∀ k, i ≤ k → k < b → lt d[k]! d[a]! = false) : bubU (i - 1 - a) a d = mrgA lt d a (a + 1) b := by
  obtain ⟨P, X, Y, Q, hd, ha, hm, hb⟩ := cut4 d.toList (a := a) (m := a + 1) (b := b) (by omega) (by omega) (by simpa using h3)
  obtain ⟨x, rfl⟩ : ∃ x, X = [x] := by
    match X with
    | [x] => exact ⟨x, rfl⟩
    | [] => simp at hm; omega
    | _ :: _ :: _ => simp at hm; omega
  simp only [List.length_cons, List.length_nil] at hm hb
  have hc := cuts hd ha (m := a + 1) (b := b) (by simp; omega) (by simp; omega)
  have hxa : d[a]! = x := by rw [ha]; exact arr_get (by rw [hd]; rfl)
  have hY : Y = Y.take (i - (a + 1)) ++ Y.drop (i - (a + 1)) := (List.take_append_drop _ Y).symm
  have e1 : ∀ y ∈ Y.take (i - (a + 1)), lt y x = true := fun y hy => by
    have hs : Y.take (i - (a + 1)) = seg d (a + 1) i := by
      rw [← hc.2.2.1]
      show ((d.toList.take b).drop (a + 1)).take (i - (a + 1)) = _
      rw [← List.drop_take, List.take_take, Nat.min_eq_left h2]
    rw [hs] at hy
    obtain ⟨k, g1, g2, rfl⟩ := (seg_mem (by omega)).1 hy
    rw [← hxa]; exact hl k g1 g2
  have e2 : ∀ y ∈ Y.drop (i - (a + 1)), lt y x = false := fun y hy => by
    have hs : Y.drop (i - (a + 1)) = seg d i b := by
      rw [← hc.2.2.1, List.drop_drop]
      congr 1; omega
    rw [hs] at hy
    obtain ⟨k, g1, g2, rfl⟩ := (seg_mem h3).1 hy
    rw [← hxa]; exact hr k g1 g2
  have l1 : (Y.take (i - (a + 1))).length = i - (a + 1) := by simp; omega
  generalize Y.take (i - (a + 1)) = Y1 at hY e1 l1
  generalize Y.drop (i - (a + 1)) = Y2 at hY e2
  subst hY
  apply arr_eq
  rw [mrgA_list lt hd ha (by simp; omega) (by simp at hb ⊢; omega), one_mrg h x Y1 Y2 e1 e2]
  rw [bubU_list (i - 1 - a) a d P Y1 (Y2 ++ Q) x (by rw [hd]; simp) ha (by omega)]
  simp
/-- one element behind a sorted range -/
theorem sym_last {d : Array α} (h : Weak lt) {a m i : Nat} (h1 : a ≤ i) (h2 : i ≤ m) (h3 : m + 1 ≤ d.size) (hl : ∀ k, a ≤ k → k < i → lt d[m]! d[k]! = false) (hr : ∀ k, i ≤ k → k < m → lt d[m]! d[k]! = true) : bubD (m - i) m d = mrgA lt d a m (m + 1) := by
  obtain ⟨P, X, Y, Q, hd, ha, hm, hb⟩ := cut4 d.toList (a := a) (m := m) (b := m + 1) (by omega) (by omega) (by simpa using h3)
  obtain ⟨y, rfl⟩ : ∃ y, Y = [y] := by
    match Y with
    | [y] => exact ⟨y, rfl⟩
    | [] => simp at hb; omega
    | _ :: _ :: _ => simp at hb; omega
  have hc := cuts hd ha hm hb
  have hym : d[m]! = y := by
    have : d.toList = (P ++ X) ++ y :: Q := by rw [hd]; simp
    have := arr_get this
    rwa [show (P ++ X).length = m by simp; omega] at this
  have hX : X = X.take (i - a) ++ X.drop (i - a) := (List.take_append_drop _ X).symm
  have e1 : ∀ x ∈ X.take (i - a), lt y x = false := fun x hx => by
    have hs : X.take (i - a) = seg d a i := by
      rw [← hc.2.1, ← List.drop_take, List.take_take, Nat.min_eq_left h2]
    rw [hs] at hx
    obtain ⟨k, g1, g2, rfl⟩ := (seg_mem (by omega)).1 hx
    rw [← hym]; exact hl k g1 g2
  have e2 : ∀ x ∈ X.drop (i - a), lt y x = true := fun x hx => by
    have hs : X.drop (i - a) = seg d i m := by
      rw [← hc.2.1, List.drop_drop]
      congr 1; omega
    rw [hs] at hx
    obtain ⟨k, g1, g2, rfl⟩ := (seg_mem (by omega)).1 hx
    rw [← hym]; exact hr k g1 g2
  have l1 : (X.drop (i - a)).length = m - i := by simp; omega
  generalize X.take (i - a) = X1 at hX e1
  generalize X.drop (i - a) = X2 at hX e2 l1
  subst hX
  apply arr_eq
  simp only [List.length_append] at hm
  rw [mrgA_list lt hd ha (by simp; omega) hb, mrg_one h y X1 X2 e1 e2]
  rw [bubD_list (m - i) m d (P ++ X1) X2 Q y (by rw [hd]; simp) (by simp; omega) l1]
  simp
/-- the halves -/
theorem sym_halves {d : Array α} (h : Weak lt) {a m b s e mid : Nat} (h1 : a ≤ s) (h2 : s ≤ m) (h3 : m ≤ e) (h4 : e ≤ b) (h5 : b ≤ d.size) (hn : s + e = mid + m)
    (hl : ∀ i j, a ≤ i → i < s → e ≤ j → j < b → lt d[j]! d[i]! = false) (hr : ∀ i j, s ≤ i → i < m → m ≤ j → j < e → lt d[j]! d[i]! = true) :
    mrgA lt (mrgA lt (rotA d s m e) a s mid) mid e b = mrgA lt d a m b ∧ (Srt lt (seg d a m) → Srt lt (seg d m b) →
      Srt lt (seg (rotA d s m e) a s) ∧ Srt lt (seg (rotA d s m e) s mid) ∧ Srt lt (seg (mrgA lt (rotA d s m e) a s mid) mid e) ∧ Srt lt (seg (mrgA lt (rotA d s m e) a s mid) e b)) := by
  obtain ⟨P, X, Y, Q, hd, ha, hm, hb⟩ := cut4 d.toList (a := a) (m := m) (b := b) (by omega) (by omega) (by simpa using h5)
  have hc := cuts hd ha hm hb
  have hX : X = X.take (s - a) ++ X.drop (s - a) := (List.take_append_drop _ X).symm
  have hY : Y = Y.take (e - m) ++ Y.drop (e - m) := (List.take_append_drop _ Y).symm
  have s1 : X.take (s - a) = seg d a s := by rw [← hc.2.1, ← List.drop_take, List.take_take, Nat.min_eq_left h2]
  have s2 : X.drop (s - a) = seg d s m := by
    rw [← hc.2.1, List.drop_drop]; congr 1; omega
  have s3 : Y.take (e - m) = seg d m e := by rw [← hc.2.2.1, ← List.drop_take, List.take_take, Nat.min_eq_left h4]
  have s4 : Y.drop (e - m) = seg d e b := by
    rw [← hc.2.2.1, List.drop_drop]; congr 1; omega
  have l1 : (X.take (s - a)).length = s - a := by simp; omega
  have l2 : (X.drop (s - a)).length = m - s := by simp; omega
  have l3 : (Y.take (e - m)).length = e - m := by simp; omega
  have l4 : (Y.drop (e - m)).length = b - e := by simp; omega
  have q1 : ∀ x ∈ X.take (s - a), ∀ y ∈ Y.drop (e - m), lt y x = false := fun x hx y hy => by
    rw [s1] at hx; rw [s4] at hy
    obtain ⟨i, g1, g2, rfl⟩ := (seg_mem (by omega)).1 hx
    obtain ⟨j, g3, g4, rfl⟩ := (seg_mem h5).1 hy
    exact hl i j g1 g2 g3 g4
  have q2 : ∀ y ∈ Y.take (e - m), ∀ x ∈ X.drop (s - a), lt y x = true := fun y hy x hx => by
    rw [s2] at hx; rw [s3] at hy
    obtain ⟨i, g1, g2, rfl⟩ := (seg_mem (by omega)).1 hx
    obtain ⟨j, g3, g4, rfl⟩ := (seg_mem (by omega)).1 hy
    exact hr i j g1 g2 g3 g4
  have eX : seg d a m = X := hc.2.1
  have eY : seg d m b = Y := hc.2.2.1
  rw [eX, eY]
  clear s1 s2 s3 s4 hc eX eY
  generalize X.take (s - a) = A1 at *
  generalize X.drop (s - a) = A2 at *
  generalize Y.take (e - m) = B1 at *
  generalize Y.drop (e - m) = B2 at *
  subst hX; subst hY
  simp only [List.length_append] at hm hb
  have hd' : d.toList = (P ++ A1) ++ (A2 ++ (B1 ++ (B2 ++ Q))) := by rw [hd]; simp
  have r0 := rotA_list hd' (a := s) (m := m) (b := e) (by simp; omega) (by simp; omega) (by simp; omega)
  have r1 : (rotA d s m e).toList = P ++ (A1 ++ (B1 ++ (A2 ++ (B2 ++ Q)))) := by rw [r0]; simp
  have r2 := mrgA_list lt r1 (a := a) (m := s) (b := mid) ha (by omega) (by omega)
  have r3 : (mrgA lt (rotA d s m e) a s mid).toList = (P ++ mrg lt A1 B1) ++ (A2 ++ (B2 ++ Q)) := by rw [r2]; simp
  have r4 := mrgA_list lt r3 (a := mid) (m := e) (b := b) (by simp [mrg_length]; omega) (by simp [mrg_length]; omega) (by simp [mrg_length]; omega)
  refine ⟨?_, fun hA hB => ?_⟩
  · apply arr_eq
    rw [r4, mrgA_list lt hd ha (by simp; omega) (by simp; omega), mrg_split h A1 B1 A2 B2 q1 q2]
    simp
  · have c1 := cuts r1 (a := a) (m := s) (b := mid) ha (by omega) (by omega)
    have c2 := cuts r3 (a := mid) (m := e) (b := b) (by simp [mrg_length]; omega) (by simp [mrg_length]; omega) (by simp [mrg_length]; omega)
    have hA' := List.pairwise_append.1 hA
    have hB' := List.pairwise_append.1 hB
    exact ⟨by rw [show seg (rotA d s m e) a s = A1 from c1.2.1]; exact hA'.1, by rw [show seg (rotA d s m e) s mid = B1 from c1.2.2.1]; exact hB'.1,
      by rw [show seg (mrgA lt (rotA d s m e) a s mid) mid e = A2 from c2.2.1]; exact hA'.2.1, by rw [show seg (mrgA lt (rotA d s m e) a s mid) e b = B2 from c2.2.2.1]; exact hB'.2.1⟩
end
end Go.Ev
end

section
/- sort.swapRange_func at elements of k cells. -/
set_option linter.unusedSimpArgs false
set_option linter.unusedVariables false
namespace Go.Proofs
open Go.Shelf Go.RowKit Go.Lib Go.Sort Go.Ev
variable {P : Program} {ρ : Ren} {α : Type} [Inhabited α]
set_option maxHeartbeats 2000000 in
set_option maxRecDepth 100000 in
theorem Sb.swapRange (L : LaysGt.n49 P ρ) (enc : α → List Value) (k : Nat) (hk : ∀ x, (enc x).length = k) (g : Nat) (lb : Array Value) (sf : Nat) (sb : Array Value) (blk off a b n : Nat) (d : Array α) (w : World)
    (hswap : SwapSwapsK P sf sb enc k blk off d.size) (hH : HoldsK enc k w blk off d) (hblk : blk < w.heap.size) (ha : a + n ≤ d.size) (hb : b + n ≤ d.size) (hsz : d.size < 4611686018427387904) :
    Calls P (ρ.f 49) #[.agg (dat g lb sf sb), .int .i64 a, .int .i64 b, .int .i64 n] w fun e w' => e = .returned (.tuple #[]) ∧ SWB enc k w blk off (swr a b n 0 d) w' := by
  have mixed := L.mixed; have t0 := L.t0; have a0 := L.a0; have z0 := L.z0; have v0 := L.v0; have t3 := L.t3; have a3 := L.a3; have z3 := L.z3; have v3 := L.v3; have t4 := L.t4; have a4 := L.a4; have z4 := L.z4; have v4 := L.v4; have t26 := L.t26; have a26 := L.a26; have z26 := L.z26; have v26 := L.v26; have t38 := L.t38; have a38 := L.a38; have z38 := L.z38; have v38 := L.v38; have t42 := L.t42; have a42 := L.a42; have z42 := L.z42; have v42 := L.v42
  have u42 := run_underlying L.t42
  have hW1 : SWB enc k w blk off d (w.alloc (.cells (dat g lb sf sb) (ρ.t 42))) := (SWB.start hH).alloc _
  have hH1 : HoldsK enc k (w.alloc (.cells (dat g lb sf sb) (ρ.t 42))) blk off d := hW1.holds hblk hH rfl
  have hblk1 : blk < (w.alloc (.cells (dat g lb sf sb) (ρ.t 42))).heap.size := hW1.lt hblk
  go_enter L.f49, BodyGt.n49_ntmps ρ
  go_wp2
  go_loopw [8] (fun vi wr => ∃ (i : Nat) (dk : Array α), vi = .int .i64 i ∧ i ≤ n ∧ dk.size = d.size ∧ SWB enc k (w.alloc (.cells (dat g lb sf sb) (ρ.t 42))) blk off dk wr ∧ swr a b (n - i) i dk = swr a b n 0 d) (fun vi _ => n - (intOf vi).toNat)
  case atStart => exact ⟨0, d, rfl, Nat.zero_le _, rfl, SWB.start hH1, rfl⟩
  case round =>
    obtain ⟨i, dk, rfl, hin, hsk, hS, hO⟩ := hrel
    have c0 := swb_data hblk hS 0 (.func (.func g) #[] lb) (by simp)
    have c1 := swb_data hblk hS 1 (.func (.func sf) #[] sb) (by simp)
    have hHw : HoldsK enc k wr blk off dk := hS.holds hblk1 hH1 hsk
    have HS : Aside _ := hS
    have HO : Aside _ := hO
    have HW1 : Aside _ := hW1
    clear hS hO hH hH1 hW1
    by_cases hi : i < n
    · have hs := hswap wr dk hHw hsk (a + i) (b + i) (by omega) (by omega)
      rw [show ((a + i : Nat) : Int) = (a : Int) + i by omega, show ((b + i : Nat) : Int) = (b : Int) + i by omega] at hs
      have hz : (i : Int) < n := by omega
      go_wp2
      exact ⟨⟨i + 1, swp dk (a + i) (b + i), by go_num, by omega, by rw [swp_size]; exact hsk, SWB.swap HS.out hk hblk1 (a + i) (b + i) (by omega) (by omega), by rw [← HO.out, show n - i = (n - (i + 1)) + 1 by omega, swr]⟩, by simp [intOf]; omega⟩
    · have hz : ¬ (i : Int) < n := by omega
      go_wp2
      go_end0
      refine ⟨rfl, ?_⟩
      have hO := HO.out
      rw [show n - i = 0 by omega, swr] at hO
      rw [← hO]
      exact swb_down hblk HW1.out HS.out hsk
end Go.Proofs
end

section
/- sort.rotate_func at elements of k cells. -/
set_option linter.unusedSimpArgs false
set_option linter.unusedVariables false
namespace Go.Proofs
open Go.Shelf Go.RowKit Go.Lib Go.Sort Go.Ev
variable {P : Program} {ρ : Ren} {α : Type} [Inhabited α]
set_option maxHeartbeats 4000000 in
set_option maxRecDepth 100000 in
theorem Sb.rotate (L : LaysGt.n42 P ρ) (enc : α → List Value) (k : Nat) (hk : ∀ x, (enc x).length = k) (g : Nat) (lb : Array Value) (sf : Nat) (sb : Array Value) (blk off a m b : Nat) (d : Array α) (w : World)
    (hswap : SwapSwapsK P sf sb enc k blk off d.size) (hH : HoldsK enc k w blk off d) (hblk : blk < w.heap.size) (ha : a < m) (hm : m < b) (hb : b ≤ d.size) (hsz : d.size < 4611686018427387904) :
    Calls P (ρ.f 42) #[.agg (dat g lb sf sb), .int .i64 a, .int .i64 m, .int .i64 b] w fun e w' => e = .returned (.tuple #[]) ∧ SWB enc k w blk off (rotA d a m b) w' := by
  have mixed := L.mixed; have t0 := L.t0; have a0 := L.a0; have z0 := L.z0; have v0 := L.v0; have t3 := L.t3; have a3 := L.a3; have z3 := L.z3; have v3 := L.v3; have t4 := L.t4; have a4 := L.a4; have z4 := L.z4; have v4 := L.v4; have t26 := L.t26; have a26 := L.a26; have z26 := L.z26; have v26 := L.v26; have t38 := L.t38; have a38 := L.a38; have z38 := L.z38; have v38 := L.v38; have t42 := L.t42; have a42 := L.a42; have z42 := L.z42; have v42 := L.v42
  have u42 := run_underlying L.t42
  have e49 : ∀ args w, (callFunc (ρ.f 49) args).run P w = .ok (.enter (ρ.f 49) args) w := enters_of L.f49 (by kernel_rfl) rfl
  have LS : LaysGt.n49 P ρ := { L with }
  have hW1 : SWB enc k w blk off d (w.alloc (.cells (dat g lb sf sb) (ρ.t 42))) := (SWB.start hH).alloc _
  have hH1 : HoldsK enc k (w.alloc (.cells (dat g lb sf sb) (ρ.t 42))) blk off d := hW1.holds hblk hH rfl
  have hblk1 : blk < (w.alloc (.cells (dat g lb sf sb) (ρ.t 42))).heap.size := hW1.lt hblk
  go_enter L.f42, BodyGt.n42_ntmps ρ
  go_wp2
  go_loopw [8, 9] (fun vi vj wr => ∃ (i j : Nat) (dk : Array α), vi = .int .i64 i ∧ vj = .int .i64 j ∧ 0 < i ∧ 0 < j ∧ i ≤ m ∧ m + j ≤ d.size ∧ dk.size = d.size ∧ SWB enc k (w.alloc (.cells (dat g lb sf sb) (ρ.t 42))) blk off dk wr ∧ rotA dk (m - i) m (m + j) = rotA d a m b) (fun vi vj _ => (intOf vi).toNat + (intOf vj).toNat)
  case atStart => exact ⟨m - a, b - m, d, by go_num, by go_num, by omega, by omega, by omega, by omega, rfl, SWB.start hH1, by rw [show m - (m - a) = a by omega, show m + (b - m) = b by omega]⟩
  case round =>
    obtain ⟨i, j, dk, rfl, rfl, hi0, hj0, him, hjb, hsk, hS, hO⟩ := hrel
    have c0 := swb_data hblk hS 0 (.func (.func g) #[] lb) (by simp)
    have c1 := swb_data hblk hS 1 (.func (.func sf) #[] sb) (by simp)
    have hHw : HoldsK enc k wr blk off dk := hS.holds hblk1 hH1 hsk
    have hbw : blk < wr.heap.size := hS.lt hblk1
    have hcall := fun (x y n : Nat) (h1 : x + n ≤ d.size) (h2 : y + n ≤ d.size) => Sb.swapRange LS enc k hk g lb sf sb blk off x y n dk wr (by rw [hsk]; exact hswap) hHw hbw (by omega) (by omega) (by omega)
    have HS : Aside _ := hS
    have HO : Aside _ := hO
    have HW1 : Aside _ := hW1
    have HC : Aside _ := hcall
    clear hS hO hH hH1 hW1 hcall hHw hswap
    by_cases hij : i = j
    · subst hij
      have hz : ¬ ((i : Int) ≠ i) := by omega
      have hc := HC.out (m - i) m i (by omega) (by omega)
      rw [show ((m - i : Nat) : Int) = (m : Int) - i by omega] at hc
      go_wp2_with (go_at_fn (ρ.f 49); refine hc.mono ?_; rintro e w1 ⟨rfl, hS1⟩)
      go_end0
      refine ⟨rfl, ?_⟩
      rw [← HO.out, ← rot_end him (by omega)]
      exact swb_down hblk HW1.out (swb_down hblk1 HS.out hS1 (by rw [swr_size])) (by rw [swr_size]; exact hsk)
    · have hz : ((i : Int) ≠ j) := by omega
      by_cases hgt : j < i
      · have hz2 : ((i : Int) > j) := by omega
        have hc := HC.out (m - i) m j (by omega) (by omega)
        rw [show ((m - i : Nat) : Int) = (m : Int) - i by omega] at hc
        go_wp2_with (go_at_fn (ρ.f 49); refine hc.mono ?_; rintro e w1 ⟨rfl, hS1⟩)
        go_roundw
        case rel => exact ⟨i - j, j, swr (m - i) m j 0 dk, by go_num, rfl, by omega, hj0, by omega, hjb, by rw [swr_size]; exact hsk, swb_down hblk1 HS.out hS1 (by rw [swr_size]), by rw [← HO.out, rot_more hgt him (by omega)]⟩
        case measure => simp [intOf]; omega
      · have hz2 : ¬ ((i : Int) > j) := by omega
        have hc := HC.out (m - i) (m + j - i) i (by omega) (by omega)
        rw [show ((m - i : Nat) : Int) = (m : Int) - i by omega, show ((m + j - i : Nat) : Int) = (m : Int) + j - i by omega] at hc
        go_wp2_with (go_at_fn (ρ.f 49); refine hc.mono ?_; rintro e w1 ⟨rfl, hS1⟩)
        go_roundw
        case rel => exact ⟨i, j - i, swr (m - i) (m + j - i) i 0 dk, rfl, by go_num, hi0, by omega, him, by omega, by rw [swr_size]; exact hsk, swb_down hblk1 HS.out hS1 (by rw [swr_size]), by rw [← HO.out, rot_less (by omega) him (by omega)]⟩
        case measure => simp [intOf]; omega
end Go.Proofs
end

section
/- sort.symMerge_func at elements of k cells: one element ahead of a sorted range, one behind. -/
set_option linter.unusedSimpArgs false
set_option linter.unusedVariables false
namespace Go.Proofs
open Go.Shelf Go.RowKit Go.Lib Go.Sort Go.Ev
variable {P : Program} {ρ : Ren} {α : Type} [Inhabited α]
set_option maxHeartbeats 4000000 in
set_option maxRecDepth 100000 in
theorem Sb.symMerge_one (L : LaysGt.n30 P ρ) (enc : α → List Value) (k : Nat) (hk : ∀ x, (enc x).length = k) (lt : α → α → Bool) (hlt : Weak lt) (g : Nat) (lb : Array Value) (sf : Nat) (sb : Array Value) (blk off a m b : Nat) (hm : m = a + 1) (d : Array α) (w : World)
    (eg : ∀ args w, (callFunc g args).run P w = .ok (.enter g args) w) (hless : LessB P g lb enc k lt blk off d.size w) (hswap : SwapSwapsK P sf sb enc k blk off d.size)
    (hH : HoldsK enc k w blk off d) (hblk : blk < w.heap.size) (hab : m < b) (hb : b ≤ d.size) (hsz : d.size < 4611686018427387904) (hs2 : Srt lt (seg d m b)) :
    Calls P (ρ.f 30) #[.agg (dat g lb sf sb), .int .i64 a, .int .i64 m, .int .i64 b] w fun e w' => e = .returned (.tuple #[]) ∧ SWB enc k w blk off (mrgA lt d a m b) w' := by
  have mixed := L.mixed; have t0 := L.t0; have a0 := L.a0; have z0 := L.z0; have v0 := L.v0; have t3 := L.t3; have a3 := L.a3; have z3 := L.z3; have v3 := L.v3; have t4 := L.t4; have a4 := L.a4; have z4 := L.z4; have v4 := L.v4; have t26 := L.t26; have a26 := L.a26; have z26 := L.z26; have v26 := L.v26; have t38 := L.t38; have a38 := L.a38; have z38 := L.z38; have v38 := L.v38; have t42 := L.t42; have a42 := L.a42; have z42 := L.z42; have v42 := L.v42; have t47 := L.t47; have a47 := L.a47; have z47 := L.z47; have v47 := L.v47
  have u42 := run_underlying L.t42
  have hW1 : SWB enc k w blk off d (w.alloc (.cells (dat g lb sf sb) (ρ.t 42))) := (SWB.start hH).alloc _
  have hH1 : HoldsK enc k (w.alloc (.cells (dat g lb sf sb) (ρ.t 42))) blk off d := hW1.holds hblk hH rfl
  have hblk1 : blk < (w.alloc (.cells (dat g lb sf sb) (ρ.t 42))).heap.size := hW1.lt hblk
  have hL1 : LessB P g lb enc k lt blk off d.size (w.alloc (.cells (dat g lb sf sb) (ρ.t 42))) := hW1.lessReads hless hblk rfl
  have hsrt := (seg_srt (lt := lt) hb).1 hs2
  have hz0 : (m : Int) - (a : Int) = 1 := by omega
  have HM : Aside _ := hm
  have ham : a < m := by omega
  have ham1 : a ≤ m - 1 := by omega
  clear hm
  go_enter L.f30, BodyGt.n30_ntmps ρ
  go_wp2
  go_loopw [8, 9] (fun vi vj wr => ∃ (i j : Nat), vi = .int .i64 i ∧ vj = .int .i64 j ∧ m ≤ i ∧ i ≤ j ∧ j ≤ b ∧ SWB enc k (w.alloc (.cells (dat g lb sf sb) (ρ.t 42))) blk off d wr ∧ (∀ q, m ≤ q → q < i → lt d[q]! d[a]! = true) ∧ (∀ q, j ≤ q → q < b → lt d[q]! d[a]! = false)) (fun vi vj _ => (intOf vj).toNat - (intOf vi).toNat)
  case atStart => exact ⟨m, b, rfl, rfl, by omega, by omega, by omega, SWB.start hH1, fun q h1 h2 => by omega, fun q h1 h2 => by omega⟩
  case round =>
    obtain ⟨i, j, rfl, rfl, hi0, hij, hjb, hS, hl, hr⟩ := hrel
    have c0 := swb_data hblk hS 0 (.func (.func g) #[] lb) (by simp)
    have c1 := swb_data hblk hS 1 (.func (.func sf) #[] sb) (by simp)
    have HS : Aside _ := hS
    have HL : Aside _ := hl
    have HR : Aside _ := hr
    have HT : Aside _ := hsrt
    have HW1 : Aside _ := hW1
    have HH1 : Aside _ := hH1
    have HSW : Aside _ := hswap
    have hls := fun (x y : Nat) (h1 : x < d.size) (h2 : y < d.size) => hS.less hL1 rfl x y h1 h2
    have HLS : Aside _ := hls
    clear hS hl hr hsrt hs2 hH hH1 hW1 hless hL1 hswap hls
    by_cases hz : i < j
    · have hz' : (i : Int) < j := by omega
      have hl1 := HLS.out ((i + j) / 2) a (by omega) (by omega)
      rw [show (((i + j) / 2 : Nat) : Int) = ((i : Int) + j) / 2 by omega] at hl1
      cases hv : lt d[(i + j) / 2]! d[a]! with
      | true =>
        rw [hv] at hl1
        go_wp2_with (go_at_fn g; refine hl1.mono ?_; rintro e w' ⟨rfl, hB⟩)
        go_roundw
        case rel => exact ⟨(i + j) / 2 + 1, j, by go_num, rfl, by omega, by omega, hjb, SWB.below HS.out hB, fun p h1 h2 => (Nat.lt_or_ge p ((i + j) / 2)).elim (fun h => hlt.right (HT.out p ((i + j) / 2) h1 h (by omega)) hv) (fun h => by rw [show p = (i + j) / 2 by omega]; exact hv), HR.out⟩
        case measure => simp [intOf]; omega
      | false =>
        rw [hv] at hl1
        go_wp2_with (go_at_fn g; refine hl1.mono ?_; rintro e w' ⟨rfl, hB⟩)
        go_roundw
        case rel => exact ⟨i, (i + j) / 2, rfl, by go_num, hi0, by omega, by omega, SWB.below HS.out hB, HL.out, fun p h1 h2 => (Nat.eq_or_lt_of_le h1).elim (fun h => by rw [← h]; exact hv) (fun h => hlt.neg _ _ _ (HT.out ((i + j) / 2) p (by omega) h h2) hv)⟩
        case measure => simp [intOf]; omega
    · obtain rfl : i = j := by omega
      have hz' : ¬ ((i : Int) < i) := by omega
      go_wp2
      go_loopw [11] (fun vi wr => ∃ (p : Nat) (dk : Array α), vi = .int .i64 p ∧ a ≤ p ∧ p ≤ i - 1 ∧ dk.size = d.size ∧ SWB enc k (w.alloc (.cells (dat g lb sf sb) (ρ.t 42))) blk off dk wr ∧ bubU (i - 1 - p) p dk = bubU (i - 1 - a) a d) (fun vi _ => i - (intOf vi).toNat)
      case atStart => exact ⟨a, d, rfl, Nat.le_refl _, by omega, rfl, HS.out, rfl⟩
      case round =>
        obtain ⟨p, dk, rfl, hap, hpi, hsk, hS, hO⟩ := hrel
        have c0 := swb_data hblk hS 0 (.func (.func g) #[] lb) (by simp)
        have c1 := swb_data hblk hS 1 (.func (.func sf) #[] sb) (by simp)
        have hHw := hS.holds hblk1 HH1.out hsk
        have HS2 : Aside _ := hS
        have HO : Aside _ := hO
        have HHw : Aside _ := hHw
        clear hS hO hHw
        by_cases hq : p < i - 1
        · have hq' : (p : Int) < (i : Int) - 1 := by omega
          have hs := HSW.out _ dk HHw.out hsk p (p + 1) (by omega) (by omega)
          rw [show ((p + 1 : Nat) : Int) = (p : Int) + 1 by omega] at hs
          go_wp2
          exact ⟨⟨p + 1, swp dk p (p + 1), by go_num, by omega, by omega, by rw [swp_size]; exact hsk, SWB.swap HS2.out hk hblk1 p (p + 1) (by omega) (by omega), by rw [← HO.out, show i - 1 - p = (i - 1 - (p + 1)) + 1 by omega, bubU]⟩, by simp [intOf]; omega⟩
        · have hq' : ¬ ((p : Int) < (i : Int) - 1) := by omega
          go_wp2
          (try simp only [Exit.inBlock, Exit.then]); refine bodyPost_ret (results_none rfl _ _ _) rfl ?_
          refine ⟨rfl, ?_⟩
          have hO := HO.out
          rw [show i - 1 - p = 0 by omega, bubU] at hO
          have hL := HL.out
          have hm := HM.out
          subst hm
          rw [sym_one hlt hi0 hjb hb hL HR.out] at hO
          rw [← hO]
          exact swb_down hblk HW1.out HS2.out hsk
end Go.Proofs
end

section
/- sort.symMerge_func at elements of k cells: one element behind a sorted range. -/
set_option linter.unusedSimpArgs false
set_option linter.unusedVariables false
namespace Go.Proofs
open Go.Shelf Go.RowKit Go.Lib Go.Sort Go.Ev
variable {P : Program} {ρ : Ren} {α : Type} [Inhabited α]
set_option maxHeartbeats 4000000 in
set_option maxRecDepth 100000 in
theorem Sb.symMerge_last (L : LaysGt.n30 P ρ) (enc : α → List Value) (k : Nat) (hk : ∀ x, (enc x).length = k) (lt : α → α → Bool) (hlt : Weak lt) (g : Nat) (lb : Array Value) (sf : Nat) (sb : Array Value) (blk off a m b : Nat) (hm : b = m + 1) (d : Array α) (w : World)
    (eg : ∀ args w, (callFunc g args).run P w = .ok (.enter g args) w) (hless : LessB P g lb enc k lt blk off d.size w) (hswap : SwapSwapsK P sf sb enc k blk off d.size)
    (hH : HoldsK enc k w blk off d) (hblk : blk < w.heap.size) (hab : a < m) (hne : ¬ m - a = 1) (hb : b ≤ d.size) (hsz : d.size < 4611686018427387904) (hs2 : Srt lt (seg d a m)) :
    Calls P (ρ.f 30) #[.agg (dat g lb sf sb), .int .i64 a, .int .i64 m, .int .i64 b] w fun e w' => e = .returned (.tuple #[]) ∧ SWB enc k w blk off (mrgA lt d a m b) w' := by
  have mixed := L.mixed; have t0 := L.t0; have a0 := L.a0; have z0 := L.z0; have v0 := L.v0; have t3 := L.t3; have a3 := L.a3; have z3 := L.z3; have v3 := L.v3; have t4 := L.t4; have a4 := L.a4; have z4 := L.z4; have v4 := L.v4; have t26 := L.t26; have a26 := L.a26; have z26 := L.z26; have v26 := L.v26; have t38 := L.t38; have a38 := L.a38; have z38 := L.z38; have v38 := L.v38; have t42 := L.t42; have a42 := L.a42; have z42 := L.z42; have v42 := L.v42; have t47 := L.t47; have a47 := L.a47; have z47 := L.z47; have v47 := L.v47
  have u42 := run_underlying L.t42
  have hW1 : SWB enc k w blk off d (w.alloc (.cells (dat g lb sf sb) (ρ.t 42))) := (SWB.start hH).alloc _
  have hH1 : HoldsK enc k (w.alloc (.cells (dat g lb sf sb) (ρ.t 42))) blk off d := hW1.holds hblk hH rfl
  have hblk1 : blk < (w.alloc (.cells (dat g lb sf sb) (ρ.t 42))).heap.size := hW1.lt hblk
  have hL1 : LessB P g lb enc k lt blk off d.size (w.alloc (.cells (dat g lb sf sb) (ρ.t 42))) := hW1.lessReads hless hblk rfl
  have hsrt := (seg_srt (lt := lt) (show m ≤ d.size by omega)).1 hs2
  have hz0 : (b : Int) - (m : Int) = 1 := by omega
  have hz1 : ((m : Int) - (a : Int) == 1) = false := by simp; omega
  have HM : Aside _ := hm
  have hmb : m < b := by omega
  clear hm
  go_enter L.f30, BodyGt.n30_ntmps ρ
  go_wp2
  go_loopw [12, 13] (fun vi vj wr => ∃ (i j : Nat), vi = .int .i64 i ∧ vj = .int .i64 j ∧ a ≤ i ∧ i ≤ j ∧ j ≤ m ∧ SWB enc k (w.alloc (.cells (dat g lb sf sb) (ρ.t 42))) blk off d wr ∧ (∀ q, a ≤ q → q < i → lt d[m]! d[q]! = false) ∧ (∀ q, j ≤ q → q < m → lt d[m]! d[q]! = true)) (fun vi vj _ => (intOf vj).toNat - (intOf vi).toNat)
  case atStart => exact ⟨a, m, rfl, rfl, by omega, by omega, by omega, SWB.start hH1, fun q h1 h2 => by omega, fun q h1 h2 => by omega⟩
  case round =>
    obtain ⟨i, j, rfl, rfl, hi0, hij, hjb, hS, hl, hr⟩ := hrel
    have c0 := swb_data hblk hS 0 (.func (.func g) #[] lb) (by simp)
    have c1 := swb_data hblk hS 1 (.func (.func sf) #[] sb) (by simp)
    have HS : Aside _ := hS
    have HL : Aside _ := hl
    have HR : Aside _ := hr
    have HT : Aside _ := hsrt
    have HW1 : Aside _ := hW1
    have HH1 : Aside _ := hH1
    have HSW : Aside _ := hswap
    have hls := fun (x y : Nat) (h1 : x < d.size) (h2 : y < d.size) => hS.less hL1 rfl x y h1 h2
    have HLS : Aside _ := hls
    clear hS hl hr hsrt hs2 hH hH1 hW1 hless hL1 hswap hls
    by_cases hz : i < j
    · have hz' : (i : Int) < j := by omega
      have hl1 := HLS.out m ((i + j) / 2) (by omega) (by omega)
      rw [show (((i + j) / 2 : Nat) : Int) = ((i : Int) + j) / 2 by omega] at hl1
      cases hv : lt d[m]! d[(i + j) / 2]! with
      | false =>
        rw [hv] at hl1
        go_wp2_with (go_at_fn g; refine hl1.mono ?_; rintro e w' ⟨rfl, hB⟩)
        go_roundw
        case rel => exact ⟨(i + j) / 2 + 1, j, by go_num, rfl, by omega, by omega, hjb, SWB.below HS.out hB, fun p h1 h2 => (Nat.lt_or_ge p ((i + j) / 2)).elim (fun h => hlt.neg _ _ _ hv (HT.out p ((i + j) / 2) h1 h (by omega))) (fun h => by rw [show p = (i + j) / 2 by omega]; exact hv), HR.out⟩
        case measure => simp [intOf]; omega
      | true =>
        rw [hv] at hl1
        go_wp2_with (go_at_fn g; refine hl1.mono ?_; rintro e w' ⟨rfl, hB⟩)
        go_roundw
        case rel => exact ⟨i, (i + j) / 2, rfl, by go_num, hi0, by omega, by omega, SWB.below HS.out hB, HL.out, fun p h1 h2 => (Nat.eq_or_lt_of_le h1).elim (fun h => by rw [← h]; exact hv) (fun h => hlt.left hv (HT.out ((i + j) / 2) p (by omega) h h2))⟩
        case measure => simp [intOf]; omega
    · obtain rfl : i = j := by omega
      have hz' : ¬ ((i : Int) < i) := by omega
      go_wp2
      go_loopw [15] (fun vi wr => ∃ (p : Nat) (dk : Array α), vi = .int .i64 p ∧ i ≤ p ∧ p ≤ m ∧ dk.size = d.size ∧ SWB enc k (w.alloc (.cells (dat g lb sf sb) (ρ.t 42))) blk off dk wr ∧ bubD (p - i) p dk = bubD (m - i) m d) (fun vi _ => (intOf vi).toNat)
      case atStart => exact ⟨m, d, rfl, by omega, Nat.le_refl _, rfl, HS.out, rfl⟩
      case round =>
        obtain ⟨p, dk, rfl, hap, hpi, hsk, hS, hO⟩ := hrel
        have c0 := swb_data hblk hS 0 (.func (.func g) #[] lb) (by simp)
        have c1 := swb_data hblk hS 1 (.func (.func sf) #[] sb) (by simp)
        have hHw := hS.holds hblk1 HH1.out hsk
        have HS2 : Aside _ := hS
        have HO : Aside _ := hO
        have HHw : Aside _ := hHw
        clear hS hO hHw
        by_cases hq : i < p
        · have hq' : (p : Int) > (i : Int) := by omega
          have hs := HSW.out _ dk HHw.out hsk p (p - 1) (by omega) (by omega)
          rw [show ((p - 1 : Nat) : Int) = (p : Int) - 1 by omega] at hs
          go_wp2
          exact ⟨⟨p - 1, swp dk p (p - 1), by go_num, by omega, by omega, by rw [swp_size]; exact hsk, SWB.swap HS2.out hk hblk1 p (p - 1) (by omega) (by omega), by rw [← HO.out, show p - i = (p - 1 - i) + 1 by omega, bubD]⟩, by simp [intOf]; omega⟩
        · have hq' : ¬ ((p : Int) > (i : Int)) := by omega
          go_wp2
          (try simp only [Exit.inBlock, Exit.then]); refine bodyPost_ret (results_none rfl _ _ _) rfl ?_
          refine ⟨rfl, ?_⟩
          have hO := HO.out
          rw [show p - i = 0 by omega, bubD] at hO
          have hm := HM.out
          subst hm
          rw [sym_last hlt hi0 hjb hb HL.out HR.out] at hO
          rw [← hO]
          exact swb_down hblk HW1.out HS2.out hsk
end Go.Proofs
end

section
/- Stable order: the cut that the library's search finds. -/
set_option linter.unusedSimpArgs false
set_option linter.unusedVariables false
set_option linter.unusedSectionVars false
namespace Go.Ev
open Go.Sort (swp)
section
variable {α : Type} [Inhabited α] {lt : α → α → Bool}
theorem sym_range {a m b s0 r0 mid : Nat} (ham : a < m) (hmb : m < b) (hmid : mid = (a + b) / 2) (h0 : (s0 = a ∧ r0 = m ∧ m ≤ mid) ∨ (s0 + b = mid + m ∧ r0 = mid ∧ mid < m)) :
    a ≤ s0 ∧ s0 ≤ r0 ∧ r0 ≤ m ∧ r0 ≤ mid ∧ ∀ q, s0 ≤ q → q < r0 → a ≤ q ∧ q < m ∧ m ≤ mid + m - 1 - q ∧ mid + m - 1 - q < b := by
  rcases h0 with ⟨rfl, rfl, h⟩ | ⟨h1, rfl, h⟩
  · exact ⟨by omega, by omega, by omega, by omega, fun q h1 h2 => ⟨by omega, by omega, by omega, by omega⟩⟩
  · exact ⟨by omega, by omega, by omega, by omega, fun q h2 h3 => ⟨by omega, by omega, by omega, by omega⟩⟩
theorem sym_low (h : Weak lt) {d : Array α} {a m b x y c q : Nat} (hT1 : ∀ i j, a ≤ i → i < j → j < m → lt d[j]! d[i]! = false) (hT2 : ∀ i j, m ≤ i → i < j → j < b → lt d[j]! d[i]! = false)
    (hq : a ≤ q) (hqc : q ≤ c) (hc : c < m) (hx : m ≤ x) (hxy : x ≤ y) (hy : y < b) (hv : lt d[x]! d[c]! = false) : lt d[y]! d[q]! = false := by
  have e1 : lt d[y]! d[c]! = false := by
    rcases Nat.eq_or_lt_of_le hxy with e | e
    · rw [← e]; exact hv
    · exact h.neg _ _ _ (hT2 x y hx e hy) hv
  rcases Nat.eq_or_lt_of_le hqc with e | e
  · rw [e]; exact e1
  · exact h.neg _ _ _ e1 (hT1 q c hq e hc)
theorem sym_high (h : Weak lt) {d : Array α} {a m b x y c q : Nat} (hT1 : ∀ i j, a ≤ i → i < j → j < m → lt d[j]! d[i]! = false) (hT2 : ∀ i j, m ≤ i → i < j → j < b → lt d[j]! d[i]! = false)
    (hc : a ≤ c) (hqc : c ≤ q) (hq : q < m) (hy : m ≤ y) (hxy : y ≤ x) (hx : x < b) (hv : lt d[x]! d[c]! = true) : lt d[y]! d[q]! = true := by
  have e1 : lt d[y]! d[c]! = true := by
    rcases Nat.eq_or_lt_of_le hxy with e | e
    · rw [e]; exact hv
    · exact h.right (hT2 y x hy e hx) hv
  rcases Nat.eq_or_lt_of_le hqc with e | e
  · rw [← e]; exact e1
  · exact h.left e1 (hT1 c q hc e hq)
theorem sym_cut (h : Weak lt) {d : Array α} {a m b s0 r0 s mid : Nat} (ham : a < m) (hmb : m < b) (hmid : mid = (a + b) / 2) (h0 : (s0 = a ∧ r0 = m ∧ m ≤ mid) ∨ (s0 + b = mid + m ∧ r0 = mid ∧ mid < m))
    (hT1 : ∀ i j, a ≤ i → i < j → j < m → lt d[j]! d[i]! = false) (hT2 : ∀ i j, m ≤ i → i < j → j < b → lt d[j]! d[i]! = false) (h1 : s0 ≤ s) (h2 : s ≤ r0)
    (hl : ∀ q, s0 ≤ q → q < s → lt d[mid + m - 1 - q]! d[q]! = false) (hr : ∀ q, s ≤ q → q < r0 → lt d[mid + m - 1 - q]! d[q]! = true) :
    (a ≤ s ∧ s ≤ m ∧ m ≤ mid + m - s ∧ mid + m - s ≤ b ∧ s ≤ mid) ∧ (∀ i j, a ≤ i → i < s → mid + m - s ≤ j → j < b → lt d[j]! d[i]! = false) ∧ ∀ i j, s ≤ i → i < m → m ≤ j → j < mid + m - s → lt d[j]! d[i]! = true := by
  obtain ⟨r1, r2, r3, r4, r5⟩ := sym_range ham hmb hmid h0
  refine ⟨⟨by omega, by omega, by omega, by omega, by omega⟩, fun i j g1 g2 g3 g4 => ?_, fun i j g1 g2 g3 g4 => ?_⟩
  · by_cases hs : s = s0
    · exfalso; omega
    · have hv := hl (s - 1) (by omega) (by omega)
      obtain ⟨b1, b2, b3, b4⟩ := r5 (s - 1) (by omega) (by omega)
      exact sym_low h hT1 hT2 g1 (by omega) b2 b3 (by omega) g4 hv
  · by_cases hs : s = r0
    · exfalso; omega
    · have hv := hr s (by omega) (by omega)
      obtain ⟨b1, b2, b3, b4⟩ := r5 s (by omega) (by omega)
      exact sym_high h hT1 hT2 b1 g1 g2 g3 (by omega) b4 hv
theorem rotA_id {d : Array α} {s m e : Nat} (h1 : s ≤ m) (h2 : m ≤ e) (h3 : e ≤ d.size) (h : ¬ (s < m ∧ m < e)) : rotA d s m e = d := by
  obtain ⟨P, X, Y, Q, hd, ha, hm, hb⟩ := cut4 d.toList h1 h2 (by simpa using h3)
  apply arr_eq
  rw [rotA_list hd ha hm hb, hd]
  by_cases hx : X = []
  · subst hx; simp
  · have : Y = [] := by
      have := List.length_pos_iff.2 hx
      exact List.eq_nil_of_length_eq_zero (by omega)
    subst this; simp
theorem mrgA_id {d : Array α} {a m b : Nat} (h1 : a ≤ m) (h2 : m ≤ b) (h3 : b ≤ d.size) (h : ¬ (a < m ∧ m < b)) : mrgA lt d a m b = d := by
  obtain ⟨P, X, Y, Q, hd, ha, hm, hb⟩ := cut4 d.toList h1 h2 (by simpa using h3)
  apply arr_eq
  rw [mrgA_list lt hd ha hm hb, hd]
  by_cases hx : X = []
  · subst hx; simp [nil_mrg]
  · have : Y = [] := by
      have := List.length_pos_iff.2 hx
      exact List.eq_nil_of_length_eq_zero (by omega)
    subst this; simp [mrg_nil]
end
end Go.Ev
end

section
/- sort.symMerge_func at elements of k cells: the halves. -/
set_option linter.unusedSimpArgs false
set_option linter.unusedVariables false
namespace Go.Proofs
open Go.Shelf Go.RowKit Go.Lib Go.Sort Go.Ev
variable {P : Program} {ρ : Ren} {α : Type} [Inhabited α]
set_option maxHeartbeats 40000000 in
set_option maxRecDepth 100000 in
theorem Sb.symMerge_many (L : LaysGt.n30 P ρ) (enc : α → List Value) (k : Nat) (hk : ∀ x, (enc x).length = k) (lt : α → α → Bool) (hlt : Weak lt) (g : Nat) (lb : Array Value) (sf : Nat) (sb : Array Value) (blk off a m b : Nat) (ham : a < m) (d : Array α) (w : World)
    (eg : ∀ args w, (callFunc g args).run P w = .ok (.enter g args) w) (hless : LessB P g lb enc k lt blk off d.size w) (hswap : SwapSwapsK P sf sb enc k blk off d.size)
    (hH : HoldsK enc k w blk off d) (hblk : blk < w.heap.size) (hmb : m < b) (hn1 : ¬ m - a = 1) (hn2 : ¬ b - m = 1) (hb : b ≤ d.size) (hsz : d.size < 4611686018427387904) (hs1 : Srt lt (seg d a m)) (hs2 : Srt lt (seg d m b))
    (IH : ∀ (a' m' b' : Nat) (d' : Array α) (w' : World), b' - a' < b - a → a' < m' → m' < b' → b' ≤ d'.size → d'.size = d.size → LessB P g lb enc k lt blk off d.size w' → HoldsK enc k w' blk off d' → blk < w'.heap.size → Srt lt (seg d' a' m') → Srt lt (seg d' m' b') →
      Calls P (ρ.f 30) #[.agg (dat g lb sf sb), .int .i64 a', .int .i64 m', .int .i64 b'] w' fun e w'' => e = .returned (.tuple #[]) ∧ SWB enc k w' blk off (mrgA lt d' a' m' b') w'') :
    Calls P (ρ.f 30) #[.agg (dat g lb sf sb), .int .i64 a, .int .i64 m, .int .i64 b] w fun e w' => e = .returned (.tuple #[]) ∧ SWB enc k w blk off (mrgA lt d a m b) w' := by
  have mixed := L.mixed; have t0 := L.t0; have a0 := L.a0; have z0 := L.z0; have v0 := L.v0; have t3 := L.t3; have a3 := L.a3; have z3 := L.z3; have v3 := L.v3; have t4 := L.t4; have a4 := L.a4; have z4 := L.z4; have v4 := L.v4; have t26 := L.t26; have a26 := L.a26; have z26 := L.z26; have v26 := L.v26; have t38 := L.t38; have a38 := L.a38; have z38 := L.z38; have v38 := L.v38; have t42 := L.t42; have a42 := L.a42; have z42 := L.z42; have v42 := L.v42; have t47 := L.t47; have a47 := L.a47; have z47 := L.z47; have v47 := L.v47
  have u42 := run_underlying L.t42
  have hW1 : SWB enc k w blk off d (w.alloc (.cells (dat g lb sf sb) (ρ.t 42))) := (SWB.start hH).alloc _
  have hH1 : HoldsK enc k (w.alloc (.cells (dat g lb sf sb) (ρ.t 42))) blk off d := hW1.holds hblk hH rfl
  have hblk1 : blk < (w.alloc (.cells (dat g lb sf sb) (ρ.t 42))).heap.size := hW1.lt hblk
  have hL1 : LessB P g lb enc k lt blk off d.size (w.alloc (.cells (dat g lb sf sb) (ρ.t 42))) := hW1.lessReads hless hblk rfl
  have hT1 := (seg_srt (lt := lt) (show m ≤ d.size by omega)).1 hs1
  have hT2 := (seg_srt (lt := lt) hb).1 hs2
  have e30 : ∀ args w, (callFunc (ρ.f 30) args).run P w = .ok (.enter (ρ.f 30) args) w := enters_of L.f30 (by kernel_rfl) rfl
  have e42 : ∀ args w, (callFunc (ρ.f 42) args).run P w = .ok (.enter (ρ.f 42) args) w := enters_of L.f42 (by kernel_rfl) rfl
  have LR : LaysGt.n42 P ρ := { L with }
  have hz0 : ((m : Int) - (a : Int) == 1) = false := by simp; omega
  have hz1 : ((b : Int) - (m : Int) == 1) = false := by simp; omega
  obtain ⟨mid, hmid⟩ : ∃ mid, mid = (a + b) / 2 := ⟨_, rfl⟩
  have HMZ : Aside (((a : Int) + b) / 2 = (mid : Int)) := (show ((a : Int) + b) / 2 = (mid : Int) by omega)
  have HMID : Aside _ := hmid
  have HT1 : Aside _ := hT1
  have HT2 : Aside _ := hT2
  have HW1 : Aside _ := hW1
  have HH1 : Aside _ := hH1
  have HL1 : Aside _ := hL1
  have HSWP : Aside _ := hswap
  have HS1 : Aside _ := hs1
  have HS2 : Aside _ := hs2
  have IHH : Aside _ := IH
  clear hT1 hT2 hW1 hH1 hL1 hswap hs1 hs2 IH hless hH
  by_cases hgt : mid < m
  · have hgz : (m : Int) > ((a : Int) + b) / 2 := by omega
    obtain ⟨s0, hs0⟩ : ∃ s0, s0 + b = mid + m := ⟨mid + m - b, by omega⟩
    obtain ⟨r0, hr0⟩ : ∃ r0, r0 = mid := ⟨_, rfl⟩
    have h0 : (s0 = a ∧ r0 = m ∧ m ≤ mid) ∨ (s0 + b = mid + m ∧ r0 = mid ∧ mid < m) := .inr ⟨hs0, hr0, hgt⟩
    have H0 : Aside _ := h0
    have HRG : Aside _ := sym_range ham hmb hmid h0
    clear h0 hs0 hr0 hmid hgt
    go_enter L.f30, BodyGt.n30_ntmps ρ
    go_wp2
    go_loopw [18, 19] (fun vi vj wr => ∃ (i j : Nat), vi = .int .i64 i ∧ vj = .int .i64 j ∧ s0 ≤ i ∧ i ≤ j ∧ j ≤ r0 ∧ SWB enc k (w.alloc (.cells (dat g lb sf sb) (ρ.t 42))) blk off d wr ∧ (∀ q, s0 ≤ q → q < i → lt d[mid + m - 1 - q]! d[q]! = false) ∧ (∀ q, j ≤ q → q < r0 → lt d[mid + m - 1 - q]! d[q]! = true)) (fun vi vj _ => (intOf vj).toNat - (intOf vi).toNat)
    case atStart => exact ⟨s0, r0, by have h1 := HMID.out; have h2 := H0.out; congr 1; omega, by have h1 := HMID.out; have h2 := H0.out; congr 1; omega, Nat.le_refl _, HRG.out.2.1, Nat.le_refl _, SWB.start HH1.out, fun q h1 h2 => by omega, fun q h1 h2 => by omega⟩
    case round =>
      obtain ⟨i, j, rfl, rfl, hi0, hij, hjb, hS, hl, hr⟩ := hrel
      have c0 := swb_data hblk hS 0 (.func (.func g) #[] lb) (by simp)
      have c1 := swb_data hblk hS 1 (.func (.func sf) #[] sb) (by simp)
      have HS : Aside _ := hS
      have HL : Aside _ := hl
      have HR : Aside _ := hr
      have hls := fun (x y : Nat) (h1 : x < d.size) (h2 : y < d.size) => hS.less HL1.out rfl x y h1 h2
      have HLS : Aside _ := hls
      clear hS hl hr hls
      have hjm : j ≤ m := Nat.le_trans hjb HRG.out.2.2.1
      by_cases hz : i < j
      · have hz' : (i : Int) < j := by omega
        obtain ⟨p1, p2, p3, p4⟩ := HRG.out.2.2.2.2 ((i + j) / 2) (by omega) (by omega)
        have hl1 := HLS.out (mid + m - 1 - (i + j) / 2) ((i + j) / 2) (by omega) (by omega)
        rw [show ((mid + m - 1 - (i + j) / 2 : Nat) : Int) = ((a : Int) + b) / 2 + m - 1 - ((i : Int) + j) / 2 by have := HMID.out; omega, show (((i + j) / 2 : Nat) : Int) = ((i : Int) + j) / 2 by omega] at hl1
        have P1 : Aside _ := p1
        have P2 : Aside _ := p2
        have P3 : Aside _ := p3
        have P4 : Aside _ := p4
        clear p1 p2 p3 p4
        cases hv : lt d[mid + m - 1 - (i + j) / 2]! d[(i + j) / 2]! with
        | false =>
          rw [hv] at hl1
          go_wp2_with (go_at_fn g; refine hl1.mono ?_; rintro e w' ⟨rfl, hB⟩)
          go_roundw
          case rel => exact ⟨(i + j) / 2 + 1, j, by go_num, rfl, by omega, by omega, hjb, SWB.below HS.out hB, fun p h1 h2 => (Nat.lt_or_ge p ((i + j) / 2)).elim (fun h => by
            obtain ⟨g1, g2, g3, g4⟩ := HRG.out.2.2.2.2 p h1 (by omega)
            exact sym_low hlt HT1.out HT2.out g1 (by omega) P2.out P3.out (by omega) g4 hv) (fun h => by rw [show p = (i + j) / 2 by omega]; exact hv), HR.out⟩
          case measure => simp [intOf]; omega
        | true =>
          rw [hv] at hl1
          go_wp2_with (go_at_fn g; refine hl1.mono ?_; rintro e w' ⟨rfl, hB⟩)
          go_roundw
          case rel => exact ⟨i, (i + j) / 2, rfl, by go_num, hi0, by omega, by omega, SWB.below HS.out hB, HL.out, fun p h1 h2 => by
            obtain ⟨g1, g2, g3, g4⟩ := HRG.out.2.2.2.2 p (by omega) h2
            exact sym_high hlt HT1.out HT2.out P1.out h1 g2 g3 (by omega) P4.out hv⟩
          case measure => simp [intOf]; omega
      · obtain rfl : i = j := by omega
        have hz' : ¬ ((i : Int) < i) := by omega
        obtain ⟨⟨v1, v2, v3, v4, v5⟩, cl, cr⟩ := sym_cut hlt ham hmb HMID.out H0.out HT1.out HT2.out hi0 hjb HL.out HR.out
        have CL : Aside _ := cl
        have CR : Aside _ := cr
        clear cl cr
        have hE : ((mid + m - i : Nat) : Int) = ((a : Int) + b) / 2 + m - i := by have := HMID.out; omega
        have hM : ((mid : Nat) : Int) = ((a : Int) + b) / 2 := by have := HMID.out; omega
        have HE : Aside _ := hE
        have HM : Aside _ := hM
        have hHw := SWB.holds HS.out hblk1 HH1.out rfl
        have HHw : Aside _ := hHw
        have halv := sym_halves (lt := lt) (mid := mid) hlt v1 v2 v3 v4 hb (by omega) CL.out CR.out
        have HV : Aside _ := halv
        have HV3 : Aside (m ≤ mid + m - i) := v3
        have HV4 : Aside (mid + m - i ≤ b) := v4
        have HV5 : Aside (i ≤ mid) := v5
        clear hHw halv v3 v4 v5 hE hM
        have sz1 : (rotA d i m (mid + m - i)).size = d.size := rotA_size (by omega) HV3.out (by have := HV4.out; omega)
        have sz2 : (mrgA lt (rotA d i m (mid + m - i)) a i mid).size = d.size := by rw [mrgA_size lt (by omega) HV5.out (by have := HMID.out; omega), sz1]
        have SZ1 : Aside _ := sz1
        have SZ2 : Aside _ := sz2
        clear sz1 sz2
        have calls1 : ∀ W, SWB enc k (w.alloc (.cells (dat g lb sf sb) (ρ.t 42))) blk off (rotA d i m (mid + m - i)) W → a < i → i < mid → Calls P (ρ.f 30) #[.agg (dat g lb sf sb), .int .i64 a, .int .i64 i, .int .i64 (((a : Int) + b) / 2)] W fun e w'' => e = .returned (.tuple #[]) ∧ SWB enc k (w.alloc (.cells (dat g lb sf sb) (ρ.t 42))) blk off (mrgA lt (rotA d i m (mid + m - i)) a i mid) w'' := fun W hW g1 g2 => by
          have := IHH.out a i mid (rotA d i m (mid + m - i)) W (by have := HMID.out; omega) g1 g2 (by rw [SZ1.out]; have := HMID.out; omega) SZ1.out (hW.lessReads HL1.out hblk1 SZ1.out) (hW.holds hblk1 HH1.out SZ1.out) (hW.lt hblk1) (HV.out.2 HS1.out HS2.out).1 (HV.out.2 HS1.out HS2.out).2.1
          rw [HM.out] at this
          exact this.mono fun e w'' h => ⟨h.1, swb_down hblk1 hW h.2 (by rw [SZ2.out, SZ1.out])⟩
        have calls2 : ∀ W, SWB enc k (w.alloc (.cells (dat g lb sf sb) (ρ.t 42))) blk off (mrgA lt (rotA d i m (mid + m - i)) a i mid) W → i < m → mid + m - i < b → Calls P (ρ.f 30) #[.agg (dat g lb sf sb), .int .i64 (((a : Int) + b) / 2), .int .i64 (((a : Int) + b) / 2 + m - i), .int .i64 b] W fun e w'' => e = .returned (.tuple #[]) ∧ SWB enc k (w.alloc (.cells (dat g lb sf sb) (ρ.t 42))) blk off (mrgA lt d a m b) w'' := fun W hW g1 g2 => by
          have := IHH.out mid (mid + m - i) b (mrgA lt (rotA d i m (mid + m - i)) a i mid) W (by have := HMID.out; omega) (by omega) g2 (by rw [SZ2.out]; exact hb) SZ2.out (hW.lessReads HL1.out hblk1 SZ2.out) (hW.holds hblk1 HH1.out SZ2.out) (hW.lt hblk1) (HV.out.2 HS1.out HS2.out).2.2.1 (HV.out.2 HS1.out HS2.out).2.2.2
          rw [HM.out, HE.out, HV.out.1] at this
          exact this.mono fun e w'' h => ⟨h.1, swb_down hblk1 hW h.2 (by rw [mrgA_size lt (by omega) (by omega) hb, SZ2.out])⟩
        have rotc : i < m → m < mid + m - i → Calls P (ρ.f 42) #[.agg (dat g lb sf sb), .int .i64 i, .int .i64 m, .int .i64 (((a : Int) + b) / 2 + m - i)] wr fun e w'' => e = .returned (.tuple #[]) ∧ SWB enc k (w.alloc (.cells (dat g lb sf sb) (ρ.t 42))) blk off (rotA d i m (mid + m - i)) w'' := fun g1 g2 => by
          have := Sb.rotate LR enc k hk g lb sf sb blk off i m (mid + m - i) d wr HSWP.out HHw.out (SWB.lt HS.out hblk1) g1 g2 (by have := HV4.out; omega) hsz
          rw [HE.out] at this
          exact this.mono fun e w'' h => ⟨h.1, swb_down hblk1 HS.out h.2 SZ1.out⟩
        have rot0 : ¬ (i < m ∧ m < mid + m - i) → SWB enc k (w.alloc (.cells (dat g lb sf sb) (ρ.t 42))) blk off (rotA d i m (mid + m - i)) wr := fun g => by
          rw [rotA_id (by omega) HV3.out (by have := HV4.out; omega) g]; exact HS.out
        have sym0 : ∀ W, SWB enc k (w.alloc (.cells (dat g lb sf sb) (ρ.t 42))) blk off (rotA d i m (mid + m - i)) W → ¬ (a < i ∧ i < mid) → SWB enc k (w.alloc (.cells (dat g lb sf sb) (ρ.t 42))) blk off (mrgA lt (rotA d i m (mid + m - i)) a i mid) W := fun W hW g => by
          rw [mrgA_id (by omega) HV5.out (by rw [SZ1.out]; have := HMID.out; omega) g]; exact hW
        have sym9 : ∀ W, SWB enc k (w.alloc (.cells (dat g lb sf sb) (ρ.t 42))) blk off (mrgA lt (rotA d i m (mid + m - i)) a i mid) W → ¬ (mid < mid + m - i ∧ mid + m - i < b) → SWB enc k (w.alloc (.cells (dat g lb sf sb) (ρ.t 42))) blk off (mrgA lt d a m b) W := fun W hW g => by
          have h := HV.out.1
          rw [mrgA_id (d := mrgA lt (rotA d i m (mid + m - i)) a i mid) (by omega) HV4.out (by rw [SZ2.out]; exact hb) g] at h
          rw [← h]; exact hW
        have CALL1 : Aside _ := calls1
        have CALL2 : Aside _ := calls2
        have ROTC : Aside _ := rotc
        have ROT0 : Aside _ := rot0
        have SYM0 : Aside _ := sym0
        have SYM9 : Aside _ := sym9
        clear calls1 calls2 rotc rot0 sym0 sym9
        have hfin : ∀ W, SWB enc k (w.alloc (.cells (dat g lb sf sb) (ρ.t 42))) blk off (mrgA lt d a m b) W → SWB enc k w blk off (mrgA lt d a m b) W := fun W hW => swb_down hblk HW1.out hW (mrgA_size lt (by omega) (by omega) hb)
        have HFIN : Aside _ := hfin
        clear hfin
        by_cases A : i < m
        · have A1 : (i : Int) < m := by omega
          have A2 : ((a : Int) + b) / 2 < ((a : Int) + b) / 2 + m - i := by omega
          by_cases B : i < mid
          · have B1 : (m : Int) < ((a : Int) + b) / 2 + m - i := by have := HM.out; omega
            have B2 : (i : Int) < ((a : Int) + b) / 2 := by have := HM.out; omega
            by_cases C : a < i
            · have C1 : (a : Int) < i := by omega
              by_cases D : mid + m - i < b
              · have D1 : ((a : Int) + b) / 2 + m - i < b := by have := HE.out; omega
                have E1 : Aside (SWB enc k (w.alloc (.cells (dat g lb sf sb) (ρ.t 42))) blk off d wr) := HS.out
                go_wp2_with (first | (go_at_fn (ρ.f 42); refine (ROTC.out (by omega) (by omega)).mono ?_; rintro e w1 ⟨rfl, hS1⟩; have d10 := swb_data hblk hS1 0 (.func (.func g) #[] lb) (by simp); have d11 := swb_data hblk hS1 1 (.func (.func sf) #[] sb) (by simp)) | (go_at_fn_of (ρ.f 30) (Value.int .i64 (a : Int)); refine (CALL1.out _ hS1 (by omega) (by omega)).mono ?_; rintro e w2 ⟨rfl, hS2⟩; have d20 := swb_data hblk hS2 0 (.func (.func g) #[] lb) (by simp); have d21 := swb_data hblk hS2 1 (.func (.func sf) #[] sb) (by simp)) | (go_at_fn_of (ρ.f 30) (Value.int .i64 (b : Int)); refine (CALL2.out _ hS2 (by omega) (by omega)).mono ?_; rintro e w3 ⟨rfl, hS3⟩))
                all_goals (first | (go_end0; exact ⟨rfl, HFIN.out _ hS3⟩) | exact ⟨rfl, HFIN.out _ hS3⟩)
              · have D1 : ¬ (((a : Int) + b) / 2 + m - i < b) := by have := HE.out; omega
                have E1 : Aside (SWB enc k (w.alloc (.cells (dat g lb sf sb) (ρ.t 42))) blk off d wr) := HS.out
                go_wp2_with (first | (go_at_fn (ρ.f 42); refine (ROTC.out (by omega) (by omega)).mono ?_; rintro e w1 ⟨rfl, hS1⟩; have d10 := swb_data hblk hS1 0 (.func (.func g) #[] lb) (by simp); have d11 := swb_data hblk hS1 1 (.func (.func sf) #[] sb) (by simp)) | (go_at_fn_of (ρ.f 30) (Value.int .i64 (a : Int)); refine (CALL1.out _ hS1 (by omega) (by omega)).mono ?_; rintro e w2 ⟨rfl, hS2⟩; have d20 := swb_data hblk hS2 0 (.func (.func g) #[] lb) (by simp); have d21 := swb_data hblk hS2 1 (.func (.func sf) #[] sb) (by simp)))
                all_goals (first | (go_end0; exact ⟨rfl, HFIN.out _ (SYM9.out _ hS2 (by omega))⟩) | exact ⟨rfl, HFIN.out _ (SYM9.out _ hS2 (by omega))⟩)
            · have C1 : ¬ ((a : Int) < i) := by omega
              by_cases D : mid + m - i < b
              · have D1 : ((a : Int) + b) / 2 + m - i < b := by have := HE.out; omega
                have E1 : Aside (SWB enc k (w.alloc (.cells (dat g lb sf sb) (ρ.t 42))) blk off d wr) := HS.out
                go_wp2_with (first | (go_at_fn (ρ.f 42); refine (ROTC.out (by omega) (by omega)).mono ?_; rintro e w1 ⟨rfl, hS1⟩; have d10 := swb_data hblk hS1 0 (.func (.func g) #[] lb) (by simp); have d11 := swb_data hblk hS1 1 (.func (.func sf) #[] sb) (by simp)) | (go_at_fn_of (ρ.f 30) (Value.int .i64 (b : Int)); refine (CALL2.out _ (SYM0.out _ hS1 (by omega)) (by omega) (by omega)).mono ?_; rintro e w3 ⟨rfl, hS3⟩))
                all_goals (first | (go_end0; exact ⟨rfl, HFIN.out _ hS3⟩) | exact ⟨rfl, HFIN.out _ hS3⟩)
              · have D1 : ¬ (((a : Int) + b) / 2 + m - i < b) := by have := HE.out; omega
                have E1 : Aside (SWB enc k (w.alloc (.cells (dat g lb sf sb) (ρ.t 42))) blk off d wr) := HS.out
                go_wp2_with (first | (go_at_fn (ρ.f 42); refine (ROTC.out (by omega) (by omega)).mono ?_; rintro e w1 ⟨rfl, hS1⟩; have d10 := swb_data hblk hS1 0 (.func (.func g) #[] lb) (by simp); have d11 := swb_data hblk hS1 1 (.func (.func sf) #[] sb) (by simp)))
                all_goals (first | (go_end0; exact ⟨rfl, HFIN.out _ (SYM9.out _ (SYM0.out _ hS1 (by omega)) (by omega))⟩) | exact ⟨rfl, HFIN.out _ (SYM9.out _ (SYM0.out _ hS1 (by omega)) (by omega))⟩)
          · have B1 : ¬ ((m : Int) < ((a : Int) + b) / 2 + m - i) := by have := HM.out; omega
            have B2 : ¬ ((i : Int) < ((a : Int) + b) / 2) := by have := HM.out; omega
            by_cases C : a < i
            · have C1 : (a : Int) < i := by omega
              by_cases D : mid + m - i < b
              · have D1 : ((a : Int) + b) / 2 + m - i < b := by have := HE.out; omega
                have E1 : Aside (SWB enc k (w.alloc (.cells (dat g lb sf sb) (ρ.t 42))) blk off d wr) := HS.out
                have hS1 := ROT0.out (by omega)
                go_wp2_with (first | (go_at_fn_of (ρ.f 30) (Value.int .i64 (b : Int)); refine (CALL2.out _ (SYM0.out _ hS1 (by omega)) (by omega) (by omega)).mono ?_; rintro e w3 ⟨rfl, hS3⟩))
                all_goals (first | (go_end0; exact ⟨rfl, HFIN.out _ hS3⟩) | exact ⟨rfl, HFIN.out _ hS3⟩)
              · have D1 : ¬ (((a : Int) + b) / 2 + m - i < b) := by have := HE.out; omega
                have E1 : Aside (SWB enc k (w.alloc (.cells (dat g lb sf sb) (ρ.t 42))) blk off d wr) := HS.out
                have hS1 := ROT0.out (by omega)
                go_wp2
                all_goals (first | (go_end0; exact ⟨rfl, HFIN.out _ (SYM9.out _ (SYM0.out _ hS1 (by omega)) (by omega))⟩) | exact ⟨rfl, HFIN.out _ (SYM9.out _ (SYM0.out _ hS1 (by omega)) (by omega))⟩)
            · have C1 : ¬ ((a : Int) < i) := by omega
              by_cases D : mid + m - i < b
              · have D1 : ((a : Int) + b) / 2 + m - i < b := by have := HE.out; omega
                have E1 : Aside (SWB enc k (w.alloc (.cells (dat g lb sf sb) (ρ.t 42))) blk off d wr) := HS.out
                have hS1 := ROT0.out (by omega)
                go_wp2_with (first | (go_at_fn_of (ρ.f 30) (Value.int .i64 (b : Int)); refine (CALL2.out _ (SYM0.out _ hS1 (by omega)) (by omega) (by omega)).mono ?_; rintro e w3 ⟨rfl, hS3⟩))
                all_goals (first | (go_end0; exact ⟨rfl, HFIN.out _ hS3⟩) | exact ⟨rfl, HFIN.out _ hS3⟩)
              · have D1 : ¬ (((a : Int) + b) / 2 + m - i < b) := by have := HE.out; omega
                have E1 : Aside (SWB enc k (w.alloc (.cells (dat g lb sf sb) (ρ.t 42))) blk off d wr) := HS.out
                have hS1 := ROT0.out (by omega)
                go_wp2
                all_goals (first | (go_end0; exact ⟨rfl, HFIN.out _ (SYM9.out _ (SYM0.out _ hS1 (by omega)) (by omega))⟩) | exact ⟨rfl, HFIN.out _ (SYM9.out _ (SYM0.out _ hS1 (by omega)) (by omega))⟩)
        · have A1 : ¬ ((i : Int) < m) := by omega
          have A2 : ¬ (((a : Int) + b) / 2 < ((a : Int) + b) / 2 + m - i) := by omega
          by_cases B : i < mid
          · have B1 : (m : Int) < ((a : Int) + b) / 2 + m - i := by have := HM.out; omega
            have B2 : (i : Int) < ((a : Int) + b) / 2 := by have := HM.out; omega
            by_cases C : a < i
            · have C1 : (a : Int) < i := by omega
              by_cases D : mid + m - i < b
              · have D1 : ((a : Int) + b) / 2 + m - i < b := by have := HE.out; omega
                have E1 : Aside (SWB enc k (w.alloc (.cells (dat g lb sf sb) (ρ.t 42))) blk off d wr) := HS.out
                have hS1 := ROT0.out (by omega)
                go_wp2_with (first | (go_at_fn_of (ρ.f 30) (Value.int .i64 (a : Int)); refine (CALL1.out _ hS1 (by omega) (by omega)).mono ?_; rintro e w2 ⟨rfl, hS2⟩; have d20 := swb_data hblk hS2 0 (.func (.func g) #[] lb) (by simp); have d21 := swb_data hblk hS2 1 (.func (.func sf) #[] sb) (by simp)))
                all_goals (first | (go_end0; exact ⟨rfl, HFIN.out _ (SYM9.out _ hS2 (by omega))⟩) | exact ⟨rfl, HFIN.out _ (SYM9.out _ hS2 (by omega))⟩)
              · have D1 : ¬ (((a : Int) + b) / 2 + m - i < b) := by have := HE.out; omega
                have E1 : Aside (SWB enc k (w.alloc (.cells (dat g lb sf sb) (ρ.t 42))) blk off d wr) := HS.out
                have hS1 := ROT0.out (by omega)
                go_wp2_with (first | (go_at_fn_of (ρ.f 30) (Value.int .i64 (a : Int)); refine (CALL1.out _ hS1 (by omega) (by omega)).mono ?_; rintro e w2 ⟨rfl, hS2⟩; have d20 := swb_data hblk hS2 0 (.func (.func g) #[] lb) (by simp); have d21 := swb_data hblk hS2 1 (.func (.func sf) #[] sb) (by simp)))
                all_goals (first | (go_end0; exact ⟨rfl, HFIN.out _ (SYM9.out _ hS2 (by omega))⟩) | exact ⟨rfl, HFIN.out _ (SYM9.out _ hS2 (by omega))⟩)
            · have C1 : ¬ ((a : Int) < i) := by omega
              by_cases D : mid + m - i < b
              · have D1 : ((a : Int) + b) / 2 + m - i < b := by have := HE.out; omega
                have E1 : Aside (SWB enc k (w.alloc (.cells (dat g lb sf sb) (ρ.t 42))) blk off d wr) := HS.out
                have hS1 := ROT0.out (by omega)
                go_wp2
                all_goals (first | (go_end0; exact ⟨rfl, HFIN.out _ (SYM9.out _ (SYM0.out _ hS1 (by omega)) (by omega))⟩) | exact ⟨rfl, HFIN.out _ (SYM9.out _ (SYM0.out _ hS1 (by omega)) (by omega))⟩)
              · have D1 : ¬ (((a : Int) + b) / 2 + m - i < b) := by have := HE.out; omega
                have E1 : Aside (SWB enc k (w.alloc (.cells (dat g lb sf sb) (ρ.t 42))) blk off d wr) := HS.out
                have hS1 := ROT0.out (by omega)
                go_wp2
                all_goals (first | (go_end0; exact ⟨rfl, HFIN.out _ (SYM9.out _ (SYM0.out _ hS1 (by omega)) (by omega))⟩) | exact ⟨rfl, HFIN.out _ (SYM9.out _ (SYM0.out _ hS1 (by omega)) (by omega))⟩)
          · have B1 : ¬ ((m : Int) < ((a : Int) + b) / 2 + m - i) := by have := HM.out; omega
            have B2 : ¬ ((i : Int) < ((a : Int) + b) / 2) := by have := HM.out; omega
            by_cases C : a < i
            · have C1 : (a : Int) < i := by omega
              by_cases D : mid + m - i < b
              · have D1 : ((a : Int) + b) / 2 + m - i < b := by have := HE.out; omega
                have E1 : Aside (SWB enc k (w.alloc (.cells (dat g lb sf sb) (ρ.t 42))) blk off d wr) := HS.out
                have hS1 := ROT0.out (by omega)
                go_wp2
                all_goals (first | (go_end0; exact ⟨rfl, HFIN.out _ (SYM9.out _ (SYM0.out _ hS1 (by omega)) (by omega))⟩) | exact ⟨rfl, HFIN.out _ (SYM9.out _ (SYM0.out _ hS1 (by omega)) (by omega))⟩)
              · have D1 : ¬ (((a : Int) + b) / 2 + m - i < b) := by have := HE.out; omega
                have E1 : Aside (SWB enc k (w.alloc (.cells (dat g lb sf sb) (ρ.t 42))) blk off d wr) := HS.out
                have hS1 := ROT0.out (by omega)
                go_wp2
                all_goals (first | (go_end0; exact ⟨rfl, HFIN.out _ (SYM9.out _ (SYM0.out _ hS1 (by omega)) (by omega))⟩) | exact ⟨rfl, HFIN.out _ (SYM9.out _ (SYM0.out _ hS1 (by omega)) (by omega))⟩)
            · have C1 : ¬ ((a : Int) < i) := by omega
              by_cases D : mid + m - i < b
              · have D1 : ((a : Int) + b) / 2 + m - i < b := by have := HE.out; omega
                have E1 : Aside (SWB enc k (w.alloc (.cells (dat g lb sf sb) (ρ.t 42))) blk off d wr) := HS.out
                have hS1 := ROT0.out (by omega)
                go_wp2
                all_goals (first | (go_end0; exact ⟨rfl, HFIN.out _ (SYM9.out _ (SYM0.out _ hS1 (by omega)) (by omega))⟩) | exact ⟨rfl, HFIN.out _ (SYM9.out _ (SYM0.out _ hS1 (by omega)) (by omega))⟩)
              · have D1 : ¬ (((a : Int) + b) / 2 + m - i < b) := by have := HE.out; omega
                have E1 : Aside (SWB enc k (w.alloc (.cells (dat g lb sf sb) (ρ.t 42))) blk off d wr) := HS.out
                have hS1 := ROT0.out (by omega)
                go_wp2
                all_goals (first | (go_end0; exact ⟨rfl, HFIN.out _ (SYM9.out _ (SYM0.out _ hS1 (by omega)) (by omega))⟩) | exact ⟨rfl, HFIN.out _ (SYM9.out _ (SYM0.out _ hS1 (by omega)) (by omega))⟩)
  · have hgz : ¬ (m : Int) > ((a : Int) + b) / 2 := by omega
    obtain ⟨s0, hs0⟩ : ∃ s0, s0 = a := ⟨_, rfl⟩
    obtain ⟨r0, hr0⟩ : ∃ r0, r0 = m := ⟨_, rfl⟩
    have h0 : (s0 = a ∧ r0 = m ∧ m ≤ mid) ∨ (s0 + b = mid + m ∧ r0 = mid ∧ mid < m) := .inl ⟨hs0, hr0, by omega⟩
    have H0 : Aside _ := h0
    have HRG : Aside _ := sym_range ham hmb hmid h0
    clear h0 hs0 hr0 hmid hgt
    go_enter L.f30, BodyGt.n30_ntmps ρ
    go_wp2
    go_loopw [18, 19] (fun vi vj wr => ∃ (i j : Nat), vi = .int .i64 i ∧ vj = .int .i64 j ∧ s0 ≤ i ∧ i ≤ j ∧ j ≤ r0 ∧ SWB enc k (w.alloc (.cells (dat g lb sf sb) (ρ.t 42))) blk off d wr ∧ (∀ q, s0 ≤ q → q < i → lt d[mid + m - 1 - q]! d[q]! = false) ∧ (∀ q, j ≤ q → q < r0 → lt d[mid + m - 1 - q]! d[q]! = true)) (fun vi vj _ => (intOf vj).toNat - (intOf vi).toNat)
    case atStart => exact ⟨s0, r0, by have h1 := HMID.out; have h2 := H0.out; congr 1; omega, by have h1 := HMID.out; have h2 := H0.out; congr 1; omega, Nat.le_refl _, HRG.out.2.1, Nat.le_refl _, SWB.start HH1.out, fun q h1 h2 => by omega, fun q h1 h2 => by omega⟩
    case round =>
      obtain ⟨i, j, rfl, rfl, hi0, hij, hjb, hS, hl, hr⟩ := hrel
      have c0 := swb_data hblk hS 0 (.func (.func g) #[] lb) (by simp)
      have c1 := swb_data hblk hS 1 (.func (.func sf) #[] sb) (by simp)
      have HS : Aside _ := hS
      have HL : Aside _ := hl
      have HR : Aside _ := hr
      have hls := fun (x y : Nat) (h1 : x < d.size) (h2 : y < d.size) => hS.less HL1.out rfl x y h1 h2
      have HLS : Aside _ := hls
      clear hS hl hr hls
      have hjm : j ≤ m := Nat.le_trans hjb HRG.out.2.2.1
      by_cases hz : i < j
      · have hz' : (i : Int) < j := by omega
        obtain ⟨p1, p2, p3, p4⟩ := HRG.out.2.2.2.2 ((i + j) / 2) (by omega) (by omega)
        have hl1 := HLS.out (mid + m - 1 - (i + j) / 2) ((i + j) / 2) (by omega) (by omega)
        rw [show ((mid + m - 1 - (i + j) / 2 : Nat) : Int) = ((a : Int) + b) / 2 + m - 1 - ((i : Int) + j) / 2 by have := HMID.out; omega, show (((i + j) / 2 : Nat) : Int) = ((i : Int) + j) / 2 by omega] at hl1
        have P1 : Aside _ := p1
        have P2 : Aside _ := p2
        have P3 : Aside _ := p3
        have P4 : Aside _ := p4
        clear p1 p2 p3 p4
        cases hv : lt d[mid + m - 1 - (i + j) / 2]! d[(i + j) / 2]! with
        | false =>
          rw [hv] at hl1
          go_wp2_with (go_at_fn g; refine hl1.mono ?_; rintro e w' ⟨rfl, hB⟩)
          go_roundw
          case rel => exact ⟨(i + j) / 2 + 1, j, by go_num, rfl, by omega, by omega, hjb, SWB.below HS.out hB, fun p h1 h2 => (Nat.lt_or_ge p ((i + j) / 2)).elim (fun h => by
            obtain ⟨g1, g2, g3, g4⟩ := HRG.out.2.2.2.2 p h1 (by omega)
            exact sym_low hlt HT1.out HT2.out g1 (by omega) P2.out P3.out (by omega) g4 hv) (fun h => by rw [show p = (i + j) / 2 by omega]; exact hv), HR.out⟩
          case measure => simp [intOf]; omega
        | true =>
          rw [hv] at hl1
          go_wp2_with (go_at_fn g; refine hl1.mono ?_; rintro e w' ⟨rfl, hB⟩)
          go_roundw
          case rel => exact ⟨i, (i + j) / 2, rfl, by go_num, hi0, by omega, by omega, SWB.below HS.out hB, HL.out, fun p h1 h2 => by
            obtain ⟨g1, g2, g3, g4⟩ := HRG.out.2.2.2.2 p (by omega) h2
            exact sym_high hlt HT1.out HT2.out P1.out h1 g2 g3 (by omega) P4.out hv⟩
          case measure => simp [intOf]; omega
      · obtain rfl : i = j := by omega
        have hz' : ¬ ((i : Int) < i) := by omega
        obtain ⟨⟨v1, v2, v3, v4, v5⟩, cl, cr⟩ := sym_cut hlt ham hmb HMID.out H0.out HT1.out HT2.out hi0 hjb HL.out HR.out
        have CL : Aside _ := cl
        have CR : Aside _ := cr
        clear cl cr
        have hE : ((mid + m - i : Nat) : Int) = ((a : Int) + b) / 2 + m - i := by have := HMID.out; omega
        have hM : ((mid : Nat) : Int) = ((a : Int) + b) / 2 := by have := HMID.out; omega
        have HE : Aside _ := hE
        have HM : Aside _ := hM
        have hHw := SWB.holds HS.out hblk1 HH1.out rfl
        have HHw : Aside _ := hHw
        have halv := sym_halves (lt := lt) (mid := mid) hlt v1 v2 v3 v4 hb (by omega) CL.out CR.out
        have HV : Aside _ := halv
        have HV3 : Aside (m ≤ mid + m - i) := v3
        have HV4 : Aside (mid + m - i ≤ b) := v4
        have HV5 : Aside (i ≤ mid) := v5
        clear hHw halv v3 v4 v5 hE hM
        have sz1 : (rotA d i m (mid + m - i)).size = d.size := rotA_size (by omega) HV3.out (by have := HV4.out; omega)
        have sz2 : (mrgA lt (rotA d i m (mid + m - i)) a i mid).size = d.size := by rw [mrgA_size lt (by omega) HV5.out (by have := HMID.out; omega), sz1]
        have SZ1 : Aside _ := sz1
        have SZ2 : Aside _ := sz2
        clear sz1 sz2
        have calls1 : ∀ W, SWB enc k (w.alloc (.cells (dat g lb sf sb) (ρ.t 42))) blk off (rotA d i m (mid + m - i)) W → a < i → i < mid → Calls P (ρ.f 30) #[.agg (dat g lb sf sb), .int .i64 a, .int .i64 i, .int .i64 (((a : Int) + b) / 2)] W fun e w'' => e = .returned (.tuple #[]) ∧ SWB enc k (w.alloc (.cells (dat g lb sf sb) (ρ.t 42))) blk off (mrgA lt (rotA d i m (mid + m - i)) a i mid) w'' := fun W hW g1 g2 => by
          have := IHH.out a i mid (rotA d i m (mid + m - i)) W (by have := HMID.out; omega) g1 g2 (by rw [SZ1.out]; have := HMID.out; omega) SZ1.out (hW.lessReads HL1.out hblk1 SZ1.out) (hW.holds hblk1 HH1.out SZ1.out) (hW.lt hblk1) (HV.out.2 HS1.out HS2.out).1 (HV.out.2 HS1.out HS2.out).2.1
          rw [HM.out] at this
          exact this.mono fun e w'' h => ⟨h.1, swb_down hblk1 hW h.2 (by rw [SZ2.out, SZ1.out])⟩
        have calls2 : ∀ W, SWB enc k (w.alloc (.cells (dat g lb sf sb) (ρ.t 42))) blk off (mrgA lt (rotA d i m (mid + m - i)) a i mid) W → i < m → mid + m - i < b → Calls P (ρ.f 30) #[.agg (dat g lb sf sb), .int .i64 (((a : Int) + b) / 2), .int .i64 (((a : Int) + b) / 2 + m - i), .int .i64 b] W fun e w'' => e = .returned (.tuple #[]) ∧ SWB enc k (w.alloc (.cells (dat g lb sf sb) (ρ.t 42))) blk off (mrgA lt d a m b) w'' := fun W hW g1 g2 => by
          have := IHH.out mid (mid + m - i) b (mrgA lt (rotA d i m (mid + m - i)) a i mid) W (by have := HMID.out; omega) (by omega) g2 (by rw [SZ2.out]; exact hb) SZ2.out (hW.lessReads HL1.out hblk1 SZ2.out) (hW.holds hblk1 HH1.out SZ2.out) (hW.lt hblk1) (HV.out.2 HS1.out HS2.out).2.2.1 (HV.out.2 HS1.out HS2.out).2.2.2
          rw [HM.out, HE.out, HV.out.1] at this
          exact this.mono fun e w'' h => ⟨h.1, swb_down hblk1 hW h.2 (by rw [mrgA_size lt (by omega) (by omega) hb, SZ2.out])⟩
        have rotc : i < m → m < mid + m - i → Calls P (ρ.f 42) #[.agg (dat g lb sf sb), .int .i64 i, .int .i64 m, .int .i64 (((a : Int) + b) / 2 + m - i)] wr fun e w'' => e = .returned (.tuple #[]) ∧ SWB enc k (w.alloc (.cells (dat g lb sf sb) (ρ.t 42))) blk off (rotA d i m (mid + m - i)) w'' := fun g1 g2 => by
          have := Sb.rotate LR enc k hk g lb sf sb blk off i m (mid + m - i) d wr HSWP.out HHw.out (SWB.lt HS.out hblk1) g1 g2 (by have := HV4.out; omega) hsz
          rw [HE.out] at this
          exact this.mono fun e w'' h => ⟨h.1, swb_down hblk1 HS.out h.2 SZ1.out⟩
        have rot0 : ¬ (i < m ∧ m < mid + m - i) → SWB enc k (w.alloc (.cells (dat g lb sf sb) (ρ.t 42))) blk off (rotA d i m (mid + m - i)) wr := fun g => by
          rw [rotA_id (by omega) HV3.out (by have := HV4.out; omega) g]; exact HS.out
        have sym0 : ∀ W, SWB enc k (w.alloc (.cells (dat g lb sf sb) (ρ.t 42))) blk off (rotA d i m (mid + m - i)) W → ¬ (a < i ∧ i < mid) → SWB enc k (w.alloc (.cells (dat g lb sf sb) (ρ.t 42))) blk off (mrgA lt (rotA d i m (mid + m - i)) a i mid) W := fun W hW g => by
          rw [mrgA_id (by omega) HV5.out (by rw [SZ1.out]; have := HMID.out; omega) g]; exact hW
        have sym9 : ∀ W, SWB enc k (w.alloc (.cells (dat g lb sf sb) (ρ.t 42))) blk off (mrgA lt (rotA d i m (mid + m - i)) a i mid) W → ¬ (mid < mid + m - i ∧ mid + m - i < b) → SWB enc k (w.alloc (.cells (dat g lb sf sb) (ρ.t 42))) blk off (mrgA lt d a m b) W := fun W hW g => by
          have h := HV.out.1
          rw [mrgA_id (d := mrgA lt (rotA d i m (mid + m - i)) a i mid) (by omega) HV4.out (by rw [SZ2.out]; exact hb) g] at h
          rw [← h]; exact hW
        have CALL1 : Aside _ := calls1
        have CALL2 : Aside _ := calls2
        have ROTC : Aside _ := rotc
        have ROT0 : Aside _ := rot0
        have SYM0 : Aside _ := sym0
        have SYM9 : Aside _ := sym9
        clear calls1 calls2 rotc rot0 sym0 sym9
        have hfin : ∀ W, SWB enc k (w.alloc (.cells (dat g lb sf sb) (ρ.t 42))) blk off (mrgA lt d a m b) W → SWB enc k w blk off (mrgA lt d a m b) W := fun W hW => swb_down hblk HW1.out hW (mrgA_size lt (by omega) (by omega) hb)
        have HFIN : Aside _ := hfin
        clear hfin
        by_cases A : i < m
        · have A1 : (i : Int) < m := by omega
          have A2 : ((a : Int) + b) / 2 < ((a : Int) + b) / 2 + m - i := by omega
          by_cases B : i < mid
          · have B1 : (m : Int) < ((a : Int) + b) / 2 + m - i := by have := HM.out; omega
            have B2 : (i : Int) < ((a : Int) + b) / 2 := by have := HM.out; omega
            by_cases C : a < i
            · have C1 : (a : Int) < i := by omega
              by_cases D : mid + m - i < b
              · have D1 : ((a : Int) + b) / 2 + m - i < b := by have := HE.out; omega
                have E1 : Aside (SWB enc k (w.alloc (.cells (dat g lb sf sb) (ρ.t 42))) blk off d wr) := HS.out
                go_wp2_with (first | (go_at_fn (ρ.f 42); refine (ROTC.out (by omega) (by omega)).mono ?_; rintro e w1 ⟨rfl, hS1⟩; have d10 := swb_data hblk hS1 0 (.func (.func g) #[] lb) (by simp); have d11 := swb_data hblk hS1 1 (.func (.func sf) #[] sb) (by simp)) | (go_at_fn_of (ρ.f 30) (Value.int .i64 (a : Int)); refine (CALL1.out _ hS1 (by omega) (by omega)).mono ?_; rintro e w2 ⟨rfl, hS2⟩; have d20 := swb_data hblk hS2 0 (.func (.func g) #[] lb) (by simp); have d21 := swb_data hblk hS2 1 (.func (.func sf) #[] sb) (by simp)) | (go_at_fn_of (ρ.f 30) (Value.int .i64 (b : Int)); refine (CALL2.out _ hS2 (by omega) (by omega)).mono ?_; rintro e w3 ⟨rfl, hS3⟩))
                all_goals (first | (go_end0; exact ⟨rfl, HFIN.out _ hS3⟩) | exact ⟨rfl, HFIN.out _ hS3⟩)
              · have D1 : ¬ (((a : Int) + b) / 2 + m - i < b) := by have := HE.out; omega
                have E1 : Aside (SWB enc k (w.alloc (.cells (dat g lb sf sb) (ρ.t 42))) blk off d wr) := HS.out
                go_wp2_with (first | (go_at_fn (ρ.f 42); refine (ROTC.out (by omega) (by omega)).mono ?_; rintro e w1 ⟨rfl, hS1⟩; have d10 := swb_data hblk hS1 0 (.func (.func g) #[] lb) (by simp); have d11 := swb_data hblk hS1 1 (.func (.func sf) #[] sb) (by simp)) | (go_at_fn_of (ρ.f 30) (Value.int .i64 (a : Int)); refine (CALL1.out _ hS1 (by omega) (by omega)).mono ?_; rintro e w2 ⟨rfl, hS2⟩; have d20 := swb_data hblk hS2 0 (.func (.func g) #[] lb) (by simp); have d21 := swb_data hblk hS2 1 (.func (.func sf) #[] sb) (by simp)))
                all_goals (first | (go_end0; exact ⟨rfl, HFIN.out _ (SYM9.out _ hS2 (by omega))⟩) | exact ⟨rfl, HFIN.out _ (SYM9.out _ hS2 (by omega))⟩)
            · have C1 : ¬ ((a : Int) < i) := by omega
              by_cases D : mid + m - i < b
              · have D1 : ((a : Int) + b) / 2 + m - i < b := by have := HE.out; omega
                have E1 : Aside (SWB enc k (w.alloc (.cells (dat g lb sf sb) (ρ.t 42))) blk off d wr) := HS.out
                go_wp2_with (first | (go_at_fn (ρ.f 42); refine (ROTC.out (by omega) (by omega)).mono ?_; rintro e w1 ⟨rfl, hS1⟩; have d10 := swb_data hblk hS1 0 (.func (.func g) #[] lb) (by simp); have d11 := swb_data hblk hS1 1 (.func (.func sf) #[] sb) (by simp)) | (go_at_fn_of (ρ.f 30) (Value.int .i64 (b : Int)); refine (CALL2.out _ (SYM0.out _ hS1 (by omega)) (by omega) (by omega)).mono ?_; rintro e w3 ⟨rfl, hS3⟩))
                all_goals (first | (go_end0; exact ⟨rfl, HFIN.out _ hS3⟩) | exact ⟨rfl, HFIN.out _ hS3⟩)
              · have D1 : ¬ (((a : Int) + b) / 2 + m - i < b) := by have := HE.out; omega
                have E1 : Aside (SWB enc k (w.alloc (.cells (dat g lb sf sb) (ρ.t 42))) blk off d wr) := HS.out
                go_wp2_with (first | (go_at_fn (ρ.f 42); refine (ROTC.out (by omega) (by omega)).mono ?_; rintro e w1 ⟨rfl, hS1⟩; have d10 := swb_data hblk hS1 0 (.func (.func g) #[] lb) (by simp); have d11 := swb_data hblk hS1 1 (.func (.func sf) #[] sb) (by simp)))
                all_goals (first | (go_end0; exact ⟨rfl, HFIN.out _ (SYM9.out _ (SYM0.out _ hS1 (by omega)) (by omega))⟩) | exact ⟨rfl, HFIN.out _ (SYM9.out _ (SYM0.out _ hS1 (by omega)) (by omega))⟩)
          · have B1 : ¬ ((m : Int) < ((a : Int) + b) / 2 + m - i) := by have := HM.out; omega
            have B2 : ¬ ((i : Int) < ((a : Int) + b) / 2) := by have := HM.out; omega
            by_cases C : a < i
            · have C1 : (a : Int) < i := by omega
              by_cases D : mid + m - i < b
              · have D1 : ((a : Int) + b) / 2 + m - i < b := by have := HE.out; omega
                have E1 : Aside (SWB enc k (w.alloc (.cells (dat g lb sf sb) (ρ.t 42))) blk off d wr) := HS.out
                have hS1 := ROT0.out (by omega)
                go_wp2_with (first | (go_at_fn_of (ρ.f 30) (Value.int .i64 (b : Int)); refine (CALL2.out _ (SYM0.out _ hS1 (by omega)) (by omega) (by omega)).mono ?_; rintro e w3 ⟨rfl, hS3⟩))
                all_goals (first | (go_end0; exact ⟨rfl, HFIN.out _ hS3⟩) | exact ⟨rfl, HFIN.out _ hS3⟩)
              · have D1 : ¬ (((a : Int) + b) / 2 + m - i < b) := by have := HE.out; omega
                have E1 : Aside (SWB enc k (w.alloc (.cells (dat g lb sf sb) (ρ.t 42))) blk off d wr) := HS.out
                have hS1 := ROT0.out (by omega)
                go_wp2
                all_goals (first | (go_end0; exact ⟨rfl, HFIN.out _ (SYM9.out _ (SYM0.out _ hS1 (by omega)) (by omega))⟩) | exact ⟨rfl, HFIN.out _ (SYM9.out _ (SYM0.out _ hS1 (by omega)) (by omega))⟩)
            · have C1 : ¬ ((a : Int) < i) := by omega
              by_cases D : mid + m - i < b
              · have D1 : ((a : Int) + b) / 2 + m - i < b := by have := HE.out; omega
                have E1 : Aside (SWB enc k (w.alloc (.cells (dat g lb sf sb) (ρ.t 42))) blk off d wr) := HS.out
                have hS1 := ROT0.out (by omega)
                go_wp2_with (first | (go_at_fn_of (ρ.f 30) (Value.int .i64 (b : Int)); refine (CALL2.out _ (SYM0.out _ hS1 (by omega)) (by omega) (by omega)).mono ?_; rintro e w3 ⟨rfl, hS3⟩))
                all_goals (first | (go_end0; exact ⟨rfl, HFIN.out _ hS3⟩) | exact ⟨rfl, HFIN.out _ hS3⟩)
              · have D1 : ¬ (((a : Int) + b) / 2 + m - i < b) := by have := HE.out; omega
                have E1 : Aside (SWB enc k (w.alloc (.cells (dat g lb sf sb) (ρ.t 42))) blk off d wr) := HS.out
                have hS1 := ROT0.out (by omega)
                go_wp2
                all_goals (first | (go_end0; exact ⟨rfl, HFIN.out _ (SYM9.out _ (SYM0.out _ hS1 (by omega)) (by omega))⟩) | exact ⟨rfl, HFIN.out _ (SYM9.out _ (SYM0.out _ hS1 (by omega)) (by omega))⟩)
        · have A1 : ¬ ((i : Int) < m) := by omega
          have A2 : ¬ (((a : Int) + b) / 2 < ((a : Int) + b) / 2 + m - i) := by omega
          by_cases B : i < mid
          · have B1 : (m : Int) < ((a : Int) + b) / 2 + m - i := by have := HM.out; omega
            have B2 : (i : Int) < ((a : Int) + b) / 2 := by have := HM.out; omega
            by_cases C : a < i
            · have C1 : (a : Int) < i := by omega
              by_cases D : mid + m - i < b
              · have D1 : ((a : Int) + b) / 2 + m - i < b := by have := HE.out; omega
                have E1 : Aside (SWB enc k (w.alloc (.cells (dat g lb sf sb) (ρ.t 42))) blk off d wr) := HS.out
                have hS1 := ROT0.out (by omega)
                go_wp2_with (first | (go_at_fn_of (ρ.f 30) (Value.int .i64 (a : Int)); refine (CALL1.out _ hS1 (by omega) (by omega)).mono ?_; rintro e w2 ⟨rfl, hS2⟩; have d20 := swb_data hblk hS2 0 (.func (.func g) #[] lb) (by simp); have d21 := swb_data hblk hS2 1 (.func (.func sf) #[] sb) (by simp)))
                all_goals (first | (go_end0; exact ⟨rfl, HFIN.out _ (SYM9.out _ hS2 (by omega))⟩) | exact ⟨rfl, HFIN.out _ (SYM9.out _ hS2 (by omega))⟩)
              · have D1 : ¬ (((a : Int) + b) / 2 + m - i < b) := by have := HE.out; omega
                have E1 : Aside (SWB enc k (w.alloc (.cells (dat g lb sf sb) (ρ.t 42))) blk off d wr) := HS.out
                have hS1 := ROT0.out (by omega)
                go_wp2_with (first | (go_at_fn_of (ρ.f 30) (Value.int .i64 (a : Int)); refine (CALL1.out _ hS1 (by omega) (by omega)).mono ?_; rintro e w2 ⟨rfl, hS2⟩; have d20 := swb_data hblk hS2 0 (.func (.func g) #[] lb) (by simp); have d21 := swb_data hblk hS2 1 (.func (.func sf) #[] sb) (by simp)))
                all_goals (first | (go_end0; exact ⟨rfl, HFIN.out _ (SYM9.out _ hS2 (by omega))⟩) | exact ⟨rfl, HFIN.out _ (SYM9.out _ hS2 (by omega))⟩)
            · have C1 : ¬ ((a : Int) < i) := by omega
              by_cases D : mid + m - i < b
              · have D1 : ((a : Int) + b) / 2 + m - i < b := by have := HE.out; omega
                have E1 : Aside (SWB enc k (w.alloc (.cells (dat g lb sf sb) (ρ.t 42))) blk off d wr) := HS.out
                have hS1 := ROT0.out (by omega)
                go_wp2
                all_goals (first | (go_end0; exact ⟨rfl, HFIN.out _ (SYM9.out _ (SYM0.out _ hS1 (by omega)) (by omega))⟩) | exact ⟨rfl, HFIN.out _ (SYM9.out _ (SYM0.out _ hS1 (by omega)) (by omega))⟩)
              · have D1 : ¬ (((a : Int) + b) / 2 + m - i < b) := by have := HE.out; omega
                have E1 : Aside (SWB enc k (w.alloc (.cells (dat g lb sf sb) (ρ.t 42))) blk off d wr) := HS.out
                have hS1 := ROT0.out (by omega)
                go_wp2
                all_goals (first | (go_end0; exact ⟨rfl, HFIN.out _ (SYM9.out _ (SYM0.out _ hS1 (by omega)) (by omega))⟩) | exact ⟨rfl, HFIN.out _ (SYM9.out _ (SYM0.out _ hS1 (by omega)) (by omega))⟩)
          · have B1 : ¬ ((m : Int) < ((a : Int) + b) / 2 + m - i) := by have := HM.out; omega
            have B2 : ¬ ((i : Int) < ((a : Int) + b) / 2) := by have := HM.out; omega
            by_cases C : a < i
            · have C1 : (a : Int) < i := by omega
              by_cases D : mid + m - i < b
              · have D1 : ((a : Int) + b) / 2 + m - i < b := by have := HE.out; omega
                have E1 : Aside (SWB enc k (w.alloc (.cells (dat g lb sf sb) (ρ.t 42))) blk off d wr) := HS.out
                have hS1 := ROT0.out (by omega)
                go_wp2
                all_goals (first | (go_end0; exact ⟨rfl, HFIN.out _ (SYM9.out _ (SYM0.out _ hS1 (by omega)) (by omega))⟩) | exact ⟨rfl, HFIN.out _ (SYM9.out _ (SYM0.out _ hS1 (by omega)) (by omega))⟩)
              · have D1 : ¬ (((a : Int) + b) / 2 + m - i < b) := by have := HE.out; omega
                have E1 : Aside (SWB enc k (w.alloc (.cells (dat g lb sf sb) (ρ.t 42))) blk off d wr) := HS.out
                have hS1 := ROT0.out (by omega)
                go_wp2
                all_goals (first | (go_end0; exact ⟨rfl, HFIN.out _ (SYM9.out _ (SYM0.out _ hS1 (by omega)) (by omega))⟩) | exact ⟨rfl, HFIN.out _ (SYM9.out _ (SYM0.out _ hS1 (by omega)) (by omega))⟩)
            · have C1 : ¬ ((a : Int) < i) := by omega
              by_cases D : mid + m - i < b
              · have D1 : ((a : Int) + b) / 2 + m - i < b := by have := HE.out; omega
                have E1 : Aside (SWB enc k (w.alloc (.cells (dat g lb sf sb) (ρ.t 42))) blk off d wr) := HS.out
                have hS1 := ROT0.out (by omega)
                go_wp2
                all_goals (first | (go_end0; exact ⟨rfl, HFIN.out _ (SYM9.out _ (SYM0.out _ hS1 (by omega)) (by omega))⟩) | exact ⟨rfl, HFIN.out _ (SYM9.out _ (SYM0.out _ hS1 (by omega)) (by omega))⟩)
              · have D1 : ¬ (((a : Int) + b) / 2 + m - i < b) := by have := HE.out; omega
                have E1 : Aside (SWB enc k (w.alloc (.cells (dat g lb sf sb) (ρ.t 42))) blk off d wr) := HS.out
                have hS1 := ROT0.out (by omega)
                go_wp2
                all_goals (first | (go_end0; exact ⟨rfl, HFIN.out _ (SYM9.out _ (SYM0.out _ hS1 (by omega)) (by omega))⟩) | exact ⟨rfl, HFIN.out _ (SYM9.out _ (SYM0.out _ hS1 (by omega)) (by omega))⟩)
end Go.Proofs
end

section
/- sort.symMerge_func at elements of k cells. -/
set_option linter.unusedSimpArgs false
set_option linter.unusedVariables false
namespace Go.Proofs
open Go.Shelf Go.RowKit Go.Lib Go.Sort Go.Ev
variable {P : Program} {ρ : Ren} {α : Type} [Inhabited α]
theorem Sb.symMerge {n0 : Nat} (L : LaysGt.n30 P ρ) (enc : α → List Value) (k : Nat) (hk : ∀ x, (enc x).length = k) (lt : α → α → Bool) (hlt : Weak lt) (g : Nat) (lb : Array Value) (sf : Nat) (sb : Array Value) (blk off : Nat)
    (eg : ∀ args w, (callFunc g args).run P w = .ok (.enter g args) w) (hsz : n0 < 4611686018427387904) (hswap : SwapSwapsK P sf sb enc k blk off n0) :
    ∀ (n a m b : Nat) (d : Array α) (w : World), b - a ≤ n → d.size = n0 → LessB P g lb enc k lt blk off n0 w → HoldsK enc k w blk off d → blk < w.heap.size → a < m → m < b → b ≤ n0 → Srt lt (seg d a m) → Srt lt (seg d m b) →
    Calls P (ρ.f 30) #[.agg (dat g lb sf sb), .int .i64 a, .int .i64 m, .int .i64 b] w fun e w' => e = .returned (.tuple #[]) ∧ SWB enc k w blk off (mrgA lt d a m b) w' := by
  intro n
  induction n with
  | zero => intro a m b d w h1 h2 h3 h4 h5 h6 h7; omega
  | succ n ih =>
    intro a m b d w h1 h2 hless hH hblk ham hmb hb hs1 hs2
    subst h2
    by_cases e1 : m - a = 1
    · exact Sb.symMerge_one L enc k hk lt hlt g lb sf sb blk off a m b (by omega) d w eg hless hswap hH hblk hmb hb hsz hs2
    · by_cases e2 : b - m = 1
      · exact Sb.symMerge_last L enc k hk lt hlt g lb sf sb blk off a m b (by omega) d w eg hless hswap hH hblk ham e1 hb hsz hs1
      · refine Sb.symMerge_many L enc k hk lt hlt g lb sf sb blk off a m b ham d w eg hless hswap hH hblk hmb e1 e2 hb hsz hs1 hs2 ?_
        intro a' m' b' d' w' g1 g2 g3 g4 g5 g6 g7 g8 g9 g10
        exact ih a' m' b' d' w' (by omega) g5 g6 g7 g8 g2 g3 (by omega) g9 g10
end Go.Proofs
end

section
/- sort.insertionSort_func at elements of k cells. -/
set_option linter.unusedSimpArgs false
set_option linter.unusedVariables false
namespace Go.Proofs
open Go.Shelf Go.RowKit Go.Lib Go.Sort Go.Ev
variable {P : Program} {ρ : Ren} {α : Type} [Inhabited α]
set_option maxHeartbeats 4000000 in
set_option maxRecDepth 100000 in
theorem Sb.insertion (L : LaysGt.n29 P ρ) (enc : α → List Value) (k : Nat) (hk : ∀ x, (enc x).length = k) (lt : α → α → Bool) (g : Nat) (lb : Array Value) (sf : Nat) (sb : Array Value) (blk off a b : Nat) (d : Array α) (w : World)
    (eg : ∀ args w, (callFunc g args).run P w = .ok (.enter g args) w) (hless : LessB P g lb enc k lt blk off d.size w) (hswap : SwapSwapsK P sf sb enc k blk off d.size)
    (hH : HoldsK enc k w blk off d) (hblk : blk < w.heap.size) (hab : a ≤ b) (hb : b ≤ d.size) (hsz : d.size < 4611686018427387904) :
    Calls P (ρ.f 29) #[.agg (dat g lb sf sb), .int .i64 a, .int .i64 b] w fun e w' => e = .returned (.tuple #[]) ∧ SWB enc k w blk off (Sort.insertionSort lt d a b) w' := by
  have mixed := L.mixed; have t0 := L.t0; have a0 := L.a0; have z0 := L.z0; have v0 := L.v0; have t3 := L.t3; have a3 := L.a3; have z3 := L.z3; have v3 := L.v3; have t4 := L.t4; have a4 := L.a4; have z4 := L.z4; have v4 := L.v4; have t26 := L.t26; have a26 := L.a26; have z26 := L.z26; have v26 := L.v26; have t38 := L.t38; have a38 := L.a38; have z38 := L.z38; have v38 := L.v38; have t42 := L.t42; have a42 := L.a42; have z42 := L.z42; have v42 := L.v42
  have u42 := run_underlying L.t42
  have hW1 : SWB enc k w blk off d (w.alloc (.cells (dat g lb sf sb) (ρ.t 42))) := (SWB.start hH).alloc _
  have hH1 : HoldsK enc k (w.alloc (.cells (dat g lb sf sb) (ρ.t 42))) blk off d := hW1.holds hblk hH rfl
  have hblk1 : blk < (w.alloc (.cells (dat g lb sf sb) (ρ.t 42))).heap.size := hW1.lt hblk
  have hL1 : LessB P g lb enc k lt blk off d.size (w.alloc (.cells (dat g lb sf sb) (ρ.t 42))) := hW1.lessReads hless hblk rfl
  have HW1 : Aside _ := hW1
  have HH1 : Aside _ := hH1
  have HL1 : Aside _ := hL1
  have HSWP : Aside _ := hswap
  clear hW1 hH1 hL1 hswap hless hH
  go_enter L.f29, BodyGt.n29_ntmps ρ
  go_wp2
  go_loopw [6] (fun vi wr => ∃ (i : Nat) (dk : Array α), vi = .int .i64 i ∧ a < i ∧ i ≤ b + 1 ∧ dk.size = d.size ∧ SWB enc k (w.alloc (.cells (dat g lb sf sb) (ρ.t 42))) blk off dk wr ∧ insOuter lt a b i dk = insOuter lt a b (a + 1) d) (fun vi _ => b + 1 - (intOf vi).toNat)
  case atStart => exact ⟨a + 1, d, by go_num, by omega, by omega, rfl, SWB.start HH1.out, rfl⟩
  case round =>
    obtain ⟨i, dk, rfl, hai, hib, hsk, hS, hO⟩ := hrel
    have HO : Aside _ := hO
    have HS : Aside _ := hS
    clear hO hS
    by_cases hz : i < b
    · have hz' : (i : Int) < b := by omega
      go_wp2
      go_loopw [7] (fun vj wr2 => ∃ (j : Nat) (dj : Array α), vj = .int .i64 j ∧ a ≤ j ∧ j ≤ i ∧ dj.size = d.size ∧ SWB enc k (w.alloc (.cells (dat g lb sf sb) (ρ.t 42))) blk off dj wr2 ∧ insInner lt a j dj = insInner lt a i dk) (fun vj _ => (intOf vj).toNat)
      case atStart => exact ⟨i, dk, rfl, by omega, Nat.le_refl _, hsk, HS.out, rfl⟩
      case round =>
        obtain ⟨j, dj, rfl, haj, hji, hsj, hS2, hI⟩ := hrel
        have c0 := swb_data hblk hS2 0 (.func (.func g) #[] lb) (by simp)
        have c1 := swb_data hblk hS2 1 (.func (.func sf) #[] sb) (by simp)
        have HI : Aside _ := hI
        have HS2 : Aside _ := hS2
        clear hI hS2
        have out : (j ≤ a ∨ lt dj[j]! dj[j - 1]! = false) → ∀ W, SWB enc k (w.alloc (.cells (dat g lb sf sb) (ρ.t 42))) blk off dj W → ∃ i' dk', Value.int .i64 ((i : Int) + 1) = .int .i64 (i' : Nat) ∧ a < i' ∧ i' ≤ b + 1 ∧ dk'.size = d.size ∧
            SWB enc k (w.alloc (.cells (dat g lb sf sb) (ρ.t 42))) blk off dk' W ∧ insOuter lt a b i' dk' = insOuter lt a b (a + 1) d := fun hs W hW =>
          ⟨i + 1, dj, by go_num, by omega, by omega, hsj, hW, by rw [← HO.out, insOuter_go _ _ _ _ _ hz, ← HI.out, insInner_stop _ _ _ _ hs]⟩
        have OUT : Aside _ := out
        clear out
        by_cases hja : a < j
        · have hja' : (j : Int) > a := by omega
          have hl := SWB.less HS2.out HL1.out hsj j (j - 1) (by omega) (by omega)
          rw [show (((j - 1 : Nat) : Int)) = (j : Int) - 1 by omega] at hl
          cases hlv : lt dj[j]! dj[j - 1]! with
          | true =>
            rw [hlv] at hl
            have next : ∀ w', Below wr.heap.size wr w' → (w'.cell? ⟨w.heap.size, 0, none⟩ = some (.func (.func g) #[] lb) ∧ w'.cell? ⟨w.heap.size, 1, none⟩ = some (.func (.func sf) #[] sb)) ∧ (callFunc sf (#[.int .i64 j, .int .i64 ((j : Int) - 1)] ++ sb)).run P w' = .ok (.value (.tuple #[])) ((w'.setCells blk (off + j * k) (enc dj[j - 1]!)).setCells blk (off + (j - 1) * k) (enc dj[j]!)) ∧ SWB enc k (w.alloc (.cells (dat g lb sf sb) (ρ.t 42))) blk off (swp dj j (j - 1)) ((w'.setCells blk (off + j * k) (enc dj[j - 1]!)).setCells blk (off + (j - 1) * k) (enc dj[j]!)) := fun w' hB => by
              have hS3 := SWB.below HS2.out hB
              have hs := HSWP.out w' dj (hS3.holds hblk1 HH1.out hsj) hsj j (j - 1) (by omega) (by omega)
              rw [show (((j - 1 : Nat) : Int)) = (j : Int) - 1 by omega] at hs
              exact ⟨⟨swb_data hblk hS3 0 (.func (.func g) #[] lb) (by simp), swb_data hblk hS3 1 (.func (.func sf) #[] sb) (by simp)⟩, hs, SWB.swap hS3 hk hblk1 j (j - 1) (by omega) (by omega)⟩
            have NEXT : Aside _ := next
            clear next
            go_wp2_with (go_at_fn g; refine hl.mono ?_; rintro e w' ⟨rfl, hB⟩; have d0 := (NEXT.out w' hB).1.1; have d1 := (NEXT.out w' hB).1.2; have hs := (NEXT.out w' hB).2.1; have HS3 : Aside _ := (NEXT.out w' hB).2.2; clear hB)
            go_roundw
            case rel => exact ⟨j - 1, swp dj j (j - 1), by go_num, by omega, by omega, by rw [size_swp]; exact hsj, HS3.out, by rw [← HI.out, insInner_go lt a j dj hja hlv]⟩
            case measure => simp [intOf]; omega
          | false =>
            rw [hlv] at hl
            go_wp2_with (go_at_fn g; refine hl.mono ?_; rintro e w' ⟨rfl, hB⟩)
            go_roundw
            case rel => exact OUT.out (Or.inr hlv) _ (SWB.below HS2.out hB)
            case measure => simp [intOf]; omega
        · have hja' : ¬ ((j : Int) > a) := by omega
          go_wp2
          go_roundw
          case rel => exact OUT.out (Or.inl (by omega)) _ HS2.out
          case measure => simp [intOf]; omega
    · have hz' : ¬ ((i : Int) < b) := by omega
      go_wp2
      go_end0
      refine ⟨rfl, ?_⟩
      unfold Sort.insertionSort
      rw [← HO.out, insOuter_stop _ _ _ _ _ hz]
      exact swb_down hblk HW1.out HS.out hsk
end Go.Proofs
end

section
/- stable_func's plain law: blocks sorted by insertion, merged two by two. -/
set_option linter.unusedSimpArgs false
set_option linter.unusedVariables false
set_option linter.unusedSectionVars false
namespace Go.Ev
open Go.Shelf Go.RowKit Go.Lib Go.Sort Go.Proofs
variable {α : Type} {lt : α → α → Bool}
inductive Bl (lt : α → α → Bool) (bs : Nat) : List α → List α → Prop
  | last (l : List α) (h : l.length ≤ bs) : Bl lt bs l (stab lt l)
  | more (X Y0 Y : List α) (h : X.length = bs) (r : Bl lt bs Y0 Y) : Bl lt bs (X ++ Y0) (stab lt X ++ Y)
theorem Bl.len {bs : Nat} {l r : List α} (h : Bl lt bs l r) : r.length = l.length := by
  induction h with
  | last l h => exact stab_length l
  | more X Y0 Y h r ih => simp [stab_length, ih]
theorem Bl.nil {bs : Nat} {r : List α} (h : Bl lt bs [] r) : r = [] := List.eq_nil_of_length_eq_zero (by rw [h.len]; rfl)
theorem stab_nil : stab lt ([] : List α) = [] := List.eq_nil_of_length_eq_zero (by rw [stab_length]; rfl)
theorem Bl.small {bs : Nat} {l r : List α} (h : Bl lt bs l r) (hl : l.length ≤ bs) : r = stab lt l := by
  cases h with
  | last _ _ => rfl
  | more X Y0 Y hx hr =>
    have : Y0 = [] := List.eq_nil_of_length_eq_zero (by simp at hl; omega)
    subst this
    rw [hr.nil]; simp
theorem Bl.split {bs : Nat} {l r : List α} (h : Bl lt bs l r) (hl : bs ≤ l.length) : ∃ X Y0 Y, X.length = bs ∧ l = X ++ Y0 ∧ r = stab lt X ++ Y ∧ Bl lt bs Y0 Y := by
  cases h with
  | last l h => exact ⟨l, [], [], by omega, by simp, by simp, by have := Bl.last (lt := lt) (bs := bs) [] (by simp); rwa [stab_nil] at this⟩
  | more X Y0 Y hx hr => exact ⟨X, Y0, Y, hx, rfl, rfl, hr⟩
/-- one step of the merging: two blocks become one -/
theorem Bl.two (hlt : Weak lt) {bs : Nat} {l r : List α} (h : Bl lt bs l r) (hl : 2 * bs ≤ l.length) :
    ∃ X X2 Y0 Y, X.length = bs ∧ X2.length = bs ∧ l = (X ++ X2) ++ Y0 ∧ r = stab lt X ++ (stab lt X2 ++ Y) ∧ mrg lt (stab lt X) (stab lt X2) = stab lt (X ++ X2) ∧ Bl lt bs Y0 Y := by
  obtain ⟨X, Y0, Y, h1, rfl, rfl, h2⟩ := h.split (by omega)
  obtain ⟨X2, Z0, Z, h3, rfl, rfl, h4⟩ := h2.split (by simp at hl; omega)
  exact ⟨X, X2, Z0, Z, h1, h3, by simp, rfl, (stab_append hlt X X2).symm, h4⟩
/-- the end of the merging: more than a block and less than two -/
theorem Bl.tail (hlt : Weak lt) {bs : Nat} {l r : List α} (h : Bl lt bs l r) (hl : bs < l.length) (h2 : l.length < 2 * bs) :
    ∃ X Y0, X.length = bs ∧ 0 < Y0.length ∧ l = X ++ Y0 ∧ r = stab lt X ++ stab lt Y0 ∧ mrg lt (stab lt X) (stab lt Y0) = stab lt l := by
  obtain ⟨X, Y0, Y, h1, rfl, rfl, h3⟩ := h.split (by omega)
  rw [h3.small (by simp at h2; omega)]
  exact ⟨X, Y0, h1, by simp at hl; omega, rfl, rfl, (stab_append hlt X Y0).symm⟩
theorem seg_of {d : Array α} {P X Q : List α} (h : d.toList = P ++ (X ++ Q)) {a b : Nat} (ha : a = P.length) (hb : b = P.length + X.length) : seg d a b = X := by
  subst ha; subst hb; simp [seg, h, List.take_append, List.drop_append]
theorem mrgA_of [Inhabited α] {d : Array α} {P X Y Q : List α} (h : d.toList = P ++ (X ++ (Y ++ Q))) {a m b : Nat} (ha : a = P.length) (hm : m = P.length + X.length) (hb : b = P.length + X.length + Y.length) : (mrgA lt d a m b).toList = P ++ (mrg lt X Y ++ Q) := mrgA_list lt h ha hm hb
variable [Inhabited α]
theorem insInner_list (h : Weak lt) {P : List α} (x : α) (a : Nat) (ha : a = P.length) : ∀ (n : Nat) (A R : List α) (d : Array α) (j : Nat), A.length = n → d.toList = P ++ (A ++ x :: R) → j = P.length + A.length → Srt lt A →
    (Sort.insInner lt a j d).toList = P ++ (mrg lt A [x] ++ R) := by
  intro n
  induction n with
  | zero =>
    intro A R d j hA hd hj _
    have := List.eq_nil_of_length_eq_zero hA; subst this
    rw [insInner_stop lt a j d (.inl (by simp at hj; omega)), hd, nil_mrg]; simp
  | succ n ih =>
    intro A R d j hA hd hj hs
    obtain ⟨A', y, rfl⟩ : ∃ A' y, A = A' ++ [y] := ⟨A.dropLast, A.getLast (by intro e; subst e; simp at hA), (List.dropLast_concat_getLast _).symm⟩
    have gx : d[j]! = x := by
      have : d.toList = (P ++ (A' ++ [y])) ++ x :: R := by rw [hd]; simp
      have := arr_get this
      rwa [show (P ++ (A' ++ [y])).length = j by rw [hj]; simp] at this
    have gy : d[j - 1]! = y := by
      have : d.toList = (P ++ A') ++ y :: (x :: R) := by rw [hd]; simp
      have := arr_get this
      rwa [show (P ++ A').length = j - 1 by rw [hj]; simp; try omega] at this
    have hs' : Srt lt A' ∧ ∀ b ∈ A', lt y b = false := by
      unfold Srt at hs ⊢
      rw [List.pairwise_append] at hs
      exact ⟨hs.1, fun b hb => hs.2.2 b hb y (by simp)⟩
    cases hv : lt x y with
    | true =>
      rw [insInner_go lt a j d (by rw [hj, ha]; simp) (by rw [gx, gy]; exact hv)]
      have e := swp_list' (d := d) (P := P ++ A') (M := []) (Q := R) (x := y) (y := x) (by rw [hd]; simp) (i := j - 1) (j := j) (by rw [hj]; simp; try omega) (by rw [hj]; simp; try omega)
      rw [ih A' (y :: R) (swp d j (j - 1)) (j - 1) (by simp at hA; omega) (by rw [e]; simp) (by rw [hj]; simp; try omega) hs'.1]
      have := mrg_split h A' [x] [y] [] (by simp) (by simp; exact hv)
      simp only [List.append_nil] at this
      rw [this, mrg_nil]; simp
    | false =>
      rw [insInner_stop lt a j d (.inr (by rw [gx, gy]; exact hv)), hd]
      have := mrg_one h x (A' ++ [y]) [] (fun b hb => by
        rcases List.mem_append.1 hb with hb | hb
        · cases hc : lt x b with
          | false => rfl
          | true => have := h.left hc (hs'.2 b hb); rw [this] at hv; cases hv
        · simp at hb; subst hb; exact hv) (by simp)
      simp only [List.append_nil] at this
      rw [this]; simp
theorem insOuter_list (h : Weak lt) {P Q : List α} (a b : Nat) (ha : a = P.length) : ∀ (X2 X1 : List α) (d : Array α) (i : Nat), d.toList = P ++ (stab lt X1 ++ (X2 ++ Q)) → i = P.length + X1.length → b = P.length + X1.length + X2.length →
    (Sort.insOuter lt a b i d).toList = P ++ (stab lt (X1 ++ X2) ++ Q) := by
  intro X2
  induction X2 with
  | nil => intro X1 d i hd hi hb; rw [insOuter_stop lt a b i d (by simp at hb; omega), hd]; simp
  | cons x X2 ih =>
    intro X1 d i hd hi hb
    rw [insOuter_go lt a b i d (by simp at hb; omega)]
    have e := insInner_list h x a ha (stab lt X1).length (stab lt X1) (X2 ++ Q) d i rfl (by rw [hd]; simp) (by rw [hi, stab_length]) (stab_srt h X1)
    have e2 : mrg lt (stab lt X1) [x] = stab lt (X1 ++ [x]) := by rw [stab_append h, stab_one]
    rw [e2] at e
    rw [ih (X1 ++ [x]) _ (i + 1) e (by rw [hi]; simp; omega) (by rw [hb]; simp; omega)]
    simp
theorem ins_list (h : Weak lt) {P X Q : List α} {d : Array α} {a b : Nat} (hd : d.toList = P ++ (X ++ Q)) (ha : a = P.length) (hb : b = P.length + X.length) : (Sort.insertionSort lt d a b).toList = P ++ (stab lt X ++ Q) := by
  unfold Sort.insertionSort
  cases X with
  | nil => rw [insOuter_stop lt a b (a + 1) d (by simp at hb; omega), hd, stab_nil]
  | cons x X =>
    have := insOuter_list (lt := lt) (Q := Q) h a b ha X [x] d (a + 1) (by rw [hd, stab_one]; simp) (by rw [ha]; simp) (by rw [hb]; simp; omega)
    rw [this]; simp
def Re1 (lt : α → α → Bool) (bs : Nat) (l0 : List α) (a : Nat) (d : Array α) : Prop :=
  ∃ P R0, d.toList = P ++ R0 ∧ P.length = a ∧ ∀ R, Bl lt bs R0 R → Bl lt bs l0 (P ++ R)
theorem re1_start (bs : Nat) (d : Array α) : Re1 lt bs d.toList 0 d := ⟨[], d.toList, rfl, rfl, fun R h => h⟩
theorem ins_size (h : Weak lt) {d : Array α} {a b : Nat} (h1 : a ≤ b) (h2 : b ≤ d.size) : (Sort.insertionSort lt d a b).size = d.size := by
  have e : d.toList = d.toList.take a ++ ((d.toList.take b).drop a ++ d.toList.drop b) := by
    have e1 : (d.toList.take b).take a = d.toList.take a := by rw [List.take_take]; congr 1; omega
    rw [← List.append_assoc, ← e1, List.take_append_drop, List.take_append_drop]
  have l1 : (d.toList.take a).length = a := by simp; try omega
  have l2 : ((d.toList.take b).drop a).length = b - a := by simp; try omega
  have := ins_list (a := a) (b := b) h e l1.symm (by rw [l1, l2]; omega)
  rw [← Array.length_toList, this, ← Array.length_toList]
  conv => rhs; rw [e]
  simp only [List.length_append, stab_length]
theorem re1_step (hlt : Weak lt) {bs : Nat} {l0 : List α} {a : Nat} {d : Array α} (h : Re1 lt bs l0 a d) (hb : a + bs ≤ d.size) : Re1 lt bs l0 (a + bs) (Sort.insertionSort lt d a (a + bs)) := by
  obtain ⟨P, R0, h1, h2, h3⟩ := h
  have hl : R0.length = d.size - a := by rw [← Array.length_toList, h1]; simp; omega
  have e : R0 = R0.take bs ++ R0.drop bs := (List.take_append_drop _ _).symm
  have hX : (R0.take bs).length = bs := by simp; omega
  refine ⟨P ++ stab lt (R0.take bs), R0.drop bs, ?_, by simp [stab_length]; omega, fun R hR => ?_⟩
  · rw [ins_list hlt (P := P) (X := R0.take bs) (Q := R0.drop bs) (by rw [← e]; exact h1) h2.symm (by rw [hX]; omega)]; simp
  · have := h3 (stab lt (R0.take bs) ++ R) (by conv => arg 3; rw [e]
                                               exact Bl.more _ _ _ hX hR)
    simpa using this
theorem re1_end (hlt : Weak lt) {bs : Nat} {l0 : List α} {a : Nat} {d : Array α} (h : Re1 lt bs l0 a d) (hb : ¬ a + bs ≤ d.size) : Bl lt bs l0 (Sort.insertionSort lt d a d.size).toList := by
  obtain ⟨P, R0, h1, h2, h3⟩ := h
  have hl : d.size = P.length + R0.length := by rw [← Array.length_toList, h1]; simp
  rw [ins_list hlt (P := P) (X := R0) (Q := []) (by simpa using h1) h2.symm hl]
  have := h3 _ (Bl.last R0 (by omega))
  simpa using this
def Re2 (lt : α → α → Bool) (bs : Nat) (l0 : List α) (a : Nat) (d : Array α) : Prop :=
  ∃ P L0 R, d.toList = P ++ R ∧ P.length = a ∧ Bl lt bs L0 R ∧ ∀ R', Bl lt (2 * bs) L0 R' → Bl lt (2 * bs) l0 (P ++ R')
theorem re2_start {bs : Nat} {l0 : List α} {d : Array α} (h : Bl lt bs l0 d.toList) : Re2 lt bs l0 0 d := ⟨[], l0, d.toList, rfl, rfl, h, fun R h => h⟩
theorem re2_step (hlt : Weak lt) {bs : Nat} {l0 : List α} {a : Nat} {d : Array α} (h : Re2 lt bs l0 a d) (hb : a + 2 * bs ≤ d.size) :
    Srt lt (seg d a (a + bs)) ∧ Srt lt (seg d (a + bs) (a + 2 * bs)) ∧ Re2 lt bs l0 (a + 2 * bs) (mrgA lt d a (a + bs) (a + 2 * bs)) := by
  obtain ⟨P, L0, R, h1, h2, h3, h4⟩ := h
  have hl : d.size = P.length + R.length := by rw [← Array.length_toList, h1]; simp
  obtain ⟨X, X2, Y0, Y, e1, e2, rfl, rfl, e3, e4⟩ := h3.two hlt (by rw [← h3.len]; omega)
  have l1 : (stab lt X).length = bs := by rw [stab_length, e1]
  have l2 : (stab lt X2).length = bs := by rw [stab_length, e2]
  refine ⟨?_, ?_, P ++ stab lt (X ++ X2), Y0, Y, ?_, ?_, e4, fun R' hR => ?_⟩
  · rw [seg_of (X := stab lt X) (Q := stab lt X2 ++ Y) h1 h2.symm (by rw [l1, h2])]; exact stab_srt hlt X
  · rw [seg_of (P := P ++ stab lt X) (X := stab lt X2) (Q := Y) (by rw [h1]; simp) (by simp [l1, h2]) (by simp [l1, l2, h2]; omega)]; exact stab_srt hlt X2
  · rw [mrgA_of h1 h2.symm (by rw [l1, h2]) (by rw [l1, l2, h2]; omega), e3]; simp
  · simp [stab_length, e1, e2, h2]; omega
  · have := h4 (stab lt (X ++ X2) ++ R') (Bl.more _ _ _ (by simp [e1, e2]; omega) hR)
    simpa using this
theorem re2_end (hlt : Weak lt) {bs : Nat} {l0 : List α} {a : Nat} {d : Array α} (h : Re2 lt bs l0 a d) (hb : ¬ a + 2 * bs ≤ d.size) (hm : a + bs < d.size) :
    Srt lt (seg d a (a + bs)) ∧ Srt lt (seg d (a + bs) d.size) ∧ Bl lt (2 * bs) l0 (mrgA lt d a (a + bs) d.size).toList := by
  obtain ⟨P, L0, R, h1, h2, h3, h4⟩ := h
  have hl : d.size = P.length + R.length := by rw [← Array.length_toList, h1]; simp
  have h5 := h3.len
  obtain ⟨X, Y0, e1, e2, rfl, rfl, e3⟩ := h3.tail hlt (by omega) (by omega)
  have l1 : (stab lt X).length = bs := by rw [stab_length, e1]
  have l2 : (stab lt Y0).length = d.size - a - bs := by simp [l1] at hl; omega
  refine ⟨?_, ?_, ?_⟩
  · rw [seg_of (X := stab lt X) (Q := stab lt Y0) h1 h2.symm (by rw [l1, h2])]; exact stab_srt hlt X
  · rw [seg_of (P := P ++ stab lt X) (X := stab lt Y0) (Q := []) (by rw [h1]; simp) (by simp [l1, h2]) (by simp [l1, h2, l2]; omega)]; exact stab_srt hlt Y0
  · rw [mrgA_of (P := P) (X := stab lt X) (Y := stab lt Y0) (Q := []) (by rw [h1]; simp) h2.symm (by rw [l1, h2]) (by rw [l1, l2, h2]; omega), e3]
    have := h4 _ (Bl.last (X ++ Y0) (by omega))
    simpa using this
theorem re2_done {bs : Nat} {l0 : List α} {a : Nat} {d : Array α} (h : Re2 lt bs l0 a d) (hm : ¬ a + bs < d.size) : Bl lt (2 * bs) l0 d.toList := by
  obtain ⟨P, L0, R, h1, h2, h3, h4⟩ := h
  have hl : d.size = P.length + R.length := by rw [← Array.length_toList, h1]; simp
  have h5 := h3.len
  rw [h3.small (by omega)] at h1
  rw [h1]
  exact h4 _ (Bl.last L0 (by omega))
end Go.Ev
end

section
set_option linter.unusedSimpArgs false
set_option linter.unusedVariables false
namespace Go.Proofs
open Go.Shelf Go.RowKit Go.Lib Go.Sort Go.Ev
variable {P : Program} {ρ : Ren} {α : Type} [Inhabited α]
set_option maxHeartbeats 40000000 in
set_option maxRecDepth 100000 in
theorem Sb.stable (L : LaysGt.n15 P ρ) (enc : α → List Value) (k : Nat) (hk : ∀ x, (enc x).length = k) (lt : α → α → Bool) (hlt : Weak lt) (g : Nat) (lb : Array Value) (sf : Nat) (sb : Array Value) (blk off : Nat) (d : Array α) (w : World)
    (eg : ∀ args w, (callFunc g args).run P w = .ok (.enter g args) w) (hless : LessB P g lb enc k lt blk off d.size w) (hswap : SwapSwapsK P sf sb enc k blk off d.size)
    (hH : HoldsK enc k w blk off d) (hblk : blk < w.heap.size) (hsz : d.size < 1152921504606846976) :
    Calls P (ρ.f 15) #[.agg (dat g lb sf sb), .int .i64 d.size] w fun e w' => e = .returned (.tuple #[]) ∧ SWB enc k w blk off (stab lt d.toList).toArray w' := by
  have mixed := L.mixed; have t0 := L.t0; have a0 := L.a0; have z0 := L.z0; have v0 := L.v0; have t3 := L.t3; have a3 := L.a3; have z3 := L.z3; have v3 := L.v3; have t4 := L.t4; have a4 := L.a4; have z4 := L.z4; have v4 := L.v4; have t26 := L.t26; have a26 := L.a26; have z26 := L.z26; have v26 := L.v26; have t38 := L.t38; have a38 := L.a38; have z38 := L.z38; have v38 := L.v38; have t42 := L.t42; have a42 := L.a42; have z42 := L.z42; have v42 := L.v42; have t47 := L.t47; have a47 := L.a47; have z47 := L.z47; have v47 := L.v47
  have u42 := run_underlying L.t42
  have e29 : ∀ args w, (callFunc (ρ.f 29) args).run P w = .ok (.enter (ρ.f 29) args) w := enters_of L.f29 (by kernel_rfl) rfl
  have e30 : ∀ args w, (callFunc (ρ.f 30) args).run P w = .ok (.enter (ρ.f 30) args) w := enters_of L.f30 (by kernel_rfl) rfl
  have hW1 : SWB enc k w blk off d (w.alloc (.cells (dat g lb sf sb) (ρ.t 42))) := (SWB.start hH).alloc _
  have hH1 : HoldsK enc k (w.alloc (.cells (dat g lb sf sb) (ρ.t 42))) blk off d := hW1.holds hblk hH rfl
  have hblk1 : blk < (w.alloc (.cells (dat g lb sf sb) (ρ.t 42))).heap.size := hW1.lt hblk
  have hL1 : LessB P g lb enc k lt blk off d.size (w.alloc (.cells (dat g lb sf sb) (ρ.t 42))) := hW1.lessReads hless hblk rfl
  have LI : LaysGt.n29 P ρ := { L with }
  have LM : LaysGt.n30 P ρ := { L with }
  have ins : ∀ (a b : Nat) (dk : Array α) (W : World), SWB enc k (w.alloc (.cells (dat g lb sf sb) (ρ.t 42))) blk off dk W → dk.size = d.size → a ≤ b → b ≤ d.size →
      Calls P (ρ.f 29) #[.agg (dat g lb sf sb), .int .i64 a, .int .i64 b] W fun e w' => e = .returned (.tuple #[]) ∧ SWB enc k (w.alloc (.cells (dat g lb sf sb) (ρ.t 42))) blk off (Sort.insertionSort lt dk a b) w' := fun a b dk W hS hs h1 h2 => by
    have := Sb.insertion LI enc k hk lt g lb sf sb blk off a b dk W eg (hs ▸ hS.lessReads hL1 hblk1 hs) (hs ▸ hswap) (hS.holds hblk1 hH1 hs) (hS.lt hblk1) h1 (by omega) (by omega)
    refine this.mono ?_
    rintro e w' ⟨rfl, hS2⟩
    exact ⟨rfl, swb_down hblk1 hS hS2 (ins_size hlt h1 (by omega))⟩
  have sym : ∀ (a m b : Nat) (dk : Array α) (W : World), SWB enc k (w.alloc (.cells (dat g lb sf sb) (ρ.t 42))) blk off dk W → dk.size = d.size → a < m → m < b → b ≤ d.size → Srt lt (seg dk a m) → Srt lt (seg dk m b) →
      Calls P (ρ.f 30) #[.agg (dat g lb sf sb), .int .i64 a, .int .i64 m, .int .i64 b] W fun e w' => e = .returned (.tuple #[]) ∧ SWB enc k (w.alloc (.cells (dat g lb sf sb) (ρ.t 42))) blk off (mrgA lt dk a m b) w' := fun a m b dk W hS hs h1 h2 h3 h4 h5 => by
    have := Sb.symMerge LM enc k hk lt hlt g lb sf sb blk off eg (show d.size < 4611686018427387904 by omega) hswap (b - a) a m b dk W (Nat.le_refl _) hs (hS.lessReads hL1 hblk1 hs) (hS.holds hblk1 hH1 hs) (hS.lt hblk1) h1 h2 h3 h4 h5
    refine this.mono ?_
    rintro e w' ⟨rfl, hS2⟩
    exact ⟨rfl, swb_down hblk1 hS hS2 (mrgA_size lt (by omega) (by omega) (by omega))⟩
  have data : ∀ (dk : Array α) (W : World), SWB enc k (w.alloc (.cells (dat g lb sf sb) (ρ.t 42))) blk off dk W → W.cell? ⟨w.heap.size, 0, none⟩ = some (.func (.func g) #[] lb) ∧ W.cell? ⟨w.heap.size, 1, none⟩ = some (.func (.func sf) #[] sb) := fun dk W hS =>
    ⟨swb_data hblk hS 0 (.func (.func g) #[] lb) (by simp), swb_data hblk hS 1 (.func (.func sf) #[] sb) (by simp)⟩
  have INS : Aside _ := ins
  have SYM : Aside _ := sym
  have DATA : Aside _ := data
  have HH1 : Aside _ := hH1
  have HW1 : Aside _ := hW1
  clear ins sym data hH1 hW1 hless hswap hH hL1
  go_enter L.f15, BodyGt.n15_ntmps ρ
  go_wp2
  go_loopw [5, 6] (fun va vb wr => ∃ (a : Nat) (dk : Array α), va = .int .i64 a ∧ vb = .int .i64 ((a + 20 : Nat) : Int) ∧ a ≤ d.size ∧ dk.size = d.size ∧ SWB enc k (w.alloc (.cells (dat g lb sf sb) (ρ.t 42))) blk off dk wr ∧ Re1 lt 20 d.toList a dk) (fun va vb _ => d.size - (intOf va).toNat)
  case atStart => exact ⟨0, d, rfl, by go_num, by omega, rfl, SWB.start HH1.out, re1_start 20 d⟩
  case round =>
    obtain ⟨a, dk, rfl, rfl, ha, hsk, hS, hR⟩ := hrel
    have ⟨c0, c1⟩ := DATA.out dk wr hS
    have HS : Aside _ := hS
    have HR : Aside _ := hR
    clear hS hR
    by_cases hz : a + 20 ≤ d.size
    · have hz' : ((a + 20 : Nat) : Int) ≤ d.size := by omega
      have hc := INS.out a (a + 20) dk wr HS.out hsk (by omega) hz
      go_wp2_with (go_at_fn (ρ.f 29); refine hc.mono ?_; rintro e w1 ⟨rfl, hS1⟩)
      go_roundw
      case rel => exact ⟨a + 20, _, rfl, by go_num, by omega, by rw [ins_size hlt (by omega) (by omega)]; exact hsk, hS1, re1_step hlt HR.out (by omega)⟩
      case measure => simp [intOf]; omega
    · have hz' : ¬ (((a + 20 : Nat) : Int) ≤ d.size) := by omega
      have hc := INS.out a d.size dk wr HS.out hsk (by omega) (Nat.le_refl _)
      have hE := re1_end hlt HR.out (by omega)
      rw [hsk] at hE
      have HE : Aside _ := hE
      clear hE
      go_wp2_with (go_at_fn (ρ.f 29); refine hc.mono ?_; rintro e w1 ⟨rfl, hS1⟩)
      clear c0 c1 hc hz hz' HS HR
      have HS1 : Aside _ := hS1
      clear hS1
      go_loopw [4] (fun vs wr => ∃ (bs : Nat) (dk : Array α), vs = .int .i64 bs ∧ 0 < bs ∧ bs ≤ 2 * d.size + 20 ∧ dk.size = d.size ∧ SWB enc k (w.alloc (.cells (dat g lb sf sb) (ρ.t 42))) blk off dk wr ∧ Bl lt bs d.toList dk.toList) (fun vs _ => d.size - (intOf vs).toNat)
      case atStart => exact ⟨20, _, rfl, by omega, by omega, by rw [ins_size hlt (by omega) (by omega)]; exact hsk, HS1.out, HE.out⟩
      case round =>
        obtain ⟨bs, dk2, rfl, hb0, hb1, hsk2, hS2, hB⟩ := hrel
        clear HS1 HE hsk
        have HS2 : Aside _ := hS2
        have HB : Aside _ := hB
        clear hS2 hB
        by_cases hz : bs < d.size
        · have hz' : (bs : Int) < d.size := by omega
          go_wp2
          go_loopw [5, 6] (fun va vb wr => ∃ (a : Nat) (dk : Array α), va = .int .i64 a ∧ vb = .int .i64 ((a + 2 * bs : Nat) : Int) ∧ a ≤ d.size ∧ dk.size = d.size ∧ SWB enc k (w.alloc (.cells (dat g lb sf sb) (ρ.t 42))) blk off dk wr ∧ Re2 lt bs d.toList a dk) (fun va vb _ => d.size - (intOf va).toNat)
          case atStart => exact ⟨0, dk2, rfl, by go_num, by omega, hsk2, HS2.out, re2_start HB.out⟩
          case round =>
            obtain ⟨a2, dk3, rfl, rfl, ha2, hsk3, hS3, hR3⟩ := hrel
            have ⟨c0, c1⟩ := DATA.out dk3 wr hS3
            have HS3 : Aside _ := hS3
            have HR3 : Aside _ := hR3
            clear hS3 hR3
            by_cases hy : a2 + 2 * bs ≤ d.size
            · have hy' : ((a2 + 2 * bs : Nat) : Int) ≤ d.size := by omega
              obtain ⟨r1, r2, r3⟩ := re2_step hlt HR3.out (by omega)
              have hc := SYM.out a2 (a2 + bs) (a2 + 2 * bs) dk3 wr HS3.out hsk3 (by omega) (by omega) (by omega) r1 r2
              have R3 : Aside _ := r3
              clear r1 r2 r3
              rw [show ((a2 + bs : Nat) : Int) = (a2 : Int) + bs by omega] at hc
              go_wp2_with (go_at_fn (ρ.f 30); refine hc.mono ?_; rintro e w1 ⟨rfl, hS4⟩)
              go_roundw
              case rel => exact ⟨a2 + 2 * bs, _, rfl, by go_num, by omega, by rw [mrgA_size lt (by omega) (by omega) (by omega)]; exact hsk3, hS4, R3.out⟩
              case measure => simp [intOf]; omega
            · have hy' : ¬ (((a2 + 2 * bs : Nat) : Int) ≤ d.size) := by omega
              by_cases hx : a2 + bs < d.size
              · have hx' : (a2 : Int) + bs < d.size := by omega
                obtain ⟨r1, r2, r3⟩ := re2_end hlt HR3.out (by omega) (by omega)
                rw [hsk3] at r2 r3
                have hc := SYM.out a2 (a2 + bs) d.size dk3 wr HS3.out hsk3 (by omega) (by omega) (by omega) r1 r2
                have R3 : Aside _ := r3
                clear r1 r2 r3
                rw [show ((a2 + bs : Nat) : Int) = (a2 : Int) + bs by omega] at hc
                go_wp2_with (go_at_fn (ρ.f 30); refine hc.mono ?_; rintro e w1 ⟨rfl, hS4⟩)
                go_roundw
                case rel => exact ⟨2 * bs, _, by go_num, by omega, by omega, by rw [mrgA_size lt (by omega) (by omega) (by omega)]; exact hsk3, hS4, R3.out⟩
                case measure => simp [intOf]; omega
              · have hx' : ¬ ((a2 : Int) + bs < d.size) := by omega
                have r3 := re2_done HR3.out (by omega)
                have R3 : Aside _ := r3
                clear r3
                go_wp2
                go_roundw
                case rel => exact ⟨2 * bs, dk3, by go_num, by omega, by omega, hsk3, HS3.out, R3.out⟩
                case measure => simp [intOf]; omega
        · have hz' : ¬ ((bs : Int) < d.size) := by omega
          have hst := HB.out.small (by simp; omega)
          have HST : Aside _ := hst
          clear hst
          go_wp2
          go_end0
          refine ⟨rfl, ?_⟩
          have e : dk2 = (stab lt d.toList).toArray := arr_eq HST.out
          rw [← e]
          exact swb_down hblk HW1.out HS2.out hsk2
end Go.Proofs
end

section
/- sort.SliceStable at any length, by the shelf's entry. -/
set_option linter.unusedSimpArgs false
set_option linter.unusedVariables false
namespace Go.Ev
open Go.Shelf Go.RowKit Go.Lib Go.Sort Go.Proofs
theorem below_of_grow (w : World) (os : Array Go.Obj) : Below w.heap.size w (grow w os) := ⟨rfl, rfl, rfl, by rw [size_grow]; omega, fun k hk => by
  simp only [grow]
  rw [Array.getElem?_append, if_pos hk]⟩
theorem stableOk_of {P : Program} {ρ : Ren} (L : LaysGt.n8 P ρ) (T U : TypeId) (i ie : TypeInfo) (hu : P.underlying T = some (.slice U)) (hi : P.info? T = some i) (hd : i.desc = .slice U) (hpk : P.packed T = false) (hie : P.info? U = some ie) (ke : Nat) (hke : ∀ w, (Extern.Rtype.kind U).run P w = .ok ke w)
    (hagg : ∀ w, (isAgg U).run P w = .ok true w) (f0 f1 f9 : Nat) (hf0 : P.funcs.findIdx? (·.name == "internal/reflectlite" ++ ".Swapper$" ++ toString (swapperK 0 ie ke)) = some f0) (hf1 : P.funcs.findIdx? (·.name == "internal/reflectlite" ++ ".Swapper$" ++ toString (swapperK 1 ie ke)) = some f1)
    (hf9 : ∀ n, 2 ≤ n → P.funcs.findIdx? (·.name == "internal/reflectlite" ++ ".Swapper$" ++ toString (swapperK n ie ke)) = some f9) (gS : Bool) (hx : ∀ args W, (callFunc f9 args).run P W = ((Extern.ReflectliteSwapper.swap gS args).run P W).andThen fun v w' => .ok (.value v) w') : StableOk P (ρ.f 8) T := by
  refine ⟨⟨U, ie, hu, hie, ?_⟩, ?_⟩
  · intro α _ enc hk h1 lt hlt g lb eg blk off c d h2 hsz w hless hH hblk
    refine Any.sort_SliceStable_of_stable L T U i ie hi hd hpk hie ke hke _ d.size c (by omega) f9 (hf9 _ h2) (.func g) #[] lb w _ ?_
    have hB : sliceBound P U ie ke (some ⟨blk, off, none⟩) d.size c = #[.slice (some ⟨blk, off, none⟩) d.size c, typeHandle P U] := by
      unfold sliceBound; rw [if_neg (swapperK_gt _ _ _ h2)]
    have hS0 : SWB enc ie.size w blk off d (stableWorld P ρ T (some ⟨blk, off, none⟩) d.size c w) := ((SWB.start hH).alloc _).alloc _
    rw [hB]
    have hp := Sb.stable (P := P) (ρ := ρ) { L with } enc ie.size hk lt hlt g lb f9 _ blk off d (stableWorld P ρ T (some ⟨blk, off, none⟩) d.size c w) eg (hS0.lessReads hless hblk rfl)
      (swapSwapsK_of_literal gS f9 hx U ie hie enc ie.size hk rfl hagg h1 blk off d.size c) (hS0.holds hblk hH rfl) (hS0.lt hblk) hsz
    refine hp.mono ?_
    rintro e w' ⟨rfl, hS⟩
    exact ⟨rfl, swb_down hblk hS0 hS (by simp [stab_length])⟩
  · intro p n c hn lf la lb w
    have hf : ∃ f, P.funcs.findIdx? (·.name == "internal/reflectlite" ++ ".Swapper$" ++ toString (swapperK n ie ke)) = some f := by
      match n, hn with
      | 0, _ => exact ⟨f0, hf0⟩
      | 1, _ => exact ⟨f1, hf1⟩
    obtain ⟨f, hf⟩ := hf
    refine (Any.sort_SliceStable_tiny L T U i ie hi hd hpk hie ke hke p n c hn f hf lf la lb w).mono ?_
    rintro e w' ⟨rfl, os, rfl⟩
    exact ⟨rfl, below_of_grow w os⟩
end Go.Ev
end

section
/- Loops over lists, out of their equations. -/
set_option linter.unusedSimpArgs false
set_option linter.unusedVariables false
namespace Go.Ev

theorem wrap_eq {x : Int} (h1 : -9223372036854775808 ≤ x) (h2 : x ≤ 9223372036854775807) : IntKind.i64.wrap x = x := by
  rw [IntKind.wrap_i64]; omega

theorem br_if {ρ : Type} (p : Prop) [Decidable p] (x y : Option ρ) : br (decide p) x y = if p then x else y := by
  by_cases h : p
  · rw [if_pos h, decide_eq_true h]; rfl
  · rw [if_neg h, decide_eq_false h]; rfl
theorem br_b {ρ : Type} (b : Bool) (x y : Option ρ) : br b x y = if b = true then x else y := by cases b <;> rfl
theorem br_pos {ρ : Type} {p : Prop} [Decidable p] (h : p) (x y : Option ρ) : br (decide p) x y = x := by rw [br_if, if_pos h]
theorem br_neg {ρ : Type} {p : Prop} [Decidable p] (h : ¬ p) (x y : Option ρ) : br (decide p) x y = y := by rw [br_if, if_neg h]

/-- a list, element by element: on with a new state, or out -/
def foldE {α S R X : Type} (g : Nat → α → S → S ⊕ R) (fin : S → X) (out : R → X) : List α → Nat → S → X
  | [], _, s => fin s
  | x :: r, i, s => match g i x s with
    | .inl s' => foldE g fin out r (i + 1) s'
    | .inr r => out r

/-- A loop that counts its way along a list. -/
theorem list_loop {α S R X : Type} (xs : List α) (z : α) (L : Nat → S → Int → Option X) (g : Nat → α → S → S ⊕ R) (fin : S → X) (out : R → X) (K : Nat) (I : Nat → S → Prop)
    (hstep : ∀ k (i : Nat) s, K ≤ k → i < xs.length → I i s → L (k + 1) s (i : Int) = (match g i (xs.getD i z) s with
      | .inl s' => L k s' ((i + 1 : Nat) : Int)
      | .inr r => some (out r)) ∧ ∀ s', g i (xs.getD i z) s = .inl s' → I (i + 1) s')
    (hend : ∀ k s, K ≤ k → I xs.length s → L (k + 1) s (xs.length : Int) = some (fin s)) :
    ∀ (n i : Nat) (s : S) (k : Nat), n + i = xs.length → K + n + 1 ≤ k → I i s → L k s (i : Int) = some (foldE g fin out (xs.drop i) i s)
  | 0, i, s, k, hn, hk, hI => by
    obtain ⟨k, rfl⟩ : ∃ k', k = k' + 1 := ⟨k - 1, by omega⟩
    have hi : i = xs.length := by omega
    subst hi
    rw [hend k s (by omega) hI, List.drop_length]
    rfl
  | n + 1, i, s, k, hn, hk, hI => by
    obtain ⟨k, rfl⟩ : ∃ k', k = k' + 1 := ⟨k - 1, by omega⟩
    have hi : i < xs.length := by omega
    obtain ⟨h1, h2⟩ := hstep k i s (by omega) hi hI
    have hd : xs.drop i = xs.getD i z :: xs.drop (i + 1) := by
      rw [List.drop_eq_getElem_cons hi]
      simp [List.getD_eq_getElem?_getD, hi]
    rw [h1, hd]
    simp only [foldE]
    cases hg : g i (xs.getD i z) s with
    | inl s' =>
      simp only
      exact list_loop xs z L g fin out K I hstep hend n (i + 1) s' k (by omega) (by omega) (h2 s' hg)
    | inr r => rfl
theorem list_loop0 {α S R X : Type} {xs : List α} (z : α) {L : Nat → S → Int → Option X} (g : Nat → α → S → S ⊕ R) (fin : S → X) (out : R → X) (K : Nat) (I : Nat → S → Prop)
    (hstep : ∀ k (i : Nat) s, K ≤ k → i < xs.length → I i s → L (k + 1) s (i : Int) = (match g i (xs.getD i z) s with
      | .inl s' => L k s' ((i + 1 : Nat) : Int)
      | .inr r => some (out r)) ∧ ∀ s', g i (xs.getD i z) s = .inl s' → I (i + 1) s')
    (hend : ∀ k s, K ≤ k → I xs.length s → L (k + 1) s (xs.length : Int) = some (fin s)) {s : S} {k : Nat} (hk : K + xs.length + 1 ≤ k) (hI : I 0 s) : L k s 0 = some (foldE g fin out xs 0 s) := by
  have := list_loop xs z L g fin out K I hstep hend xs.length 0 s k (by omega) hk hI
  simpa using this
end Go.Ev
end

section
/- What an equation with fuel comes to, fuel enough. -/
set_option linter.unusedSimpArgs false
set_option linter.unusedVariables false
namespace Go.Ev

/-- With fuel enough, f is v. -/
def Lim {X : Type} (f : Nat → Option X) (v : Option X) : Prop := ∃ k0, ∀ k, k0 ≤ k → f k = v
section
variable {X Y Z : Type}
theorem lim_const (v : Option X) : Lim (fun _ => v) v := ⟨0, fun _ _ => rfl⟩
theorem lim_bnd {m : Nat → Option Y} {M : Option Y} {f : Nat → Y → Option X} {F : Y → Option X} (h : Lim m M) (hf : ∀ y, Lim (fun k => f k y) (F y)) : Lim (fun k => bnd (m k) (fun y => f k y)) (bnd M F) := by
  obtain ⟨k1, h1⟩ := h
  cases M with
  | none => exact ⟨k1, fun k hk => by simp only [h1 k hk]; rfl⟩
  | some y =>
    obtain ⟨k2, h2⟩ := hf y
    exact ⟨max k1 k2, fun k hk => by simp only [h1 k (by omega)]; exact h2 k (by omega)⟩
theorem lim_br {b : Bool} {f g : Nat → Option X} {F G : Option X} (hf : Lim f F) (hg : Lim g G) : Lim (fun k => br b (f k) (g k)) (br b F G) := by
  cases b
  · exact hg
  · exact hf
theorem lim_onSum {r : Y ⊕ Z} {f : Nat → Y → Option X} {F : Y → Option X} {g : Nat → Z → Option X} {G : Z → Option X} (hf : ∀ y, Lim (fun k => f k y) (F y)) (hg : ∀ z, Lim (fun k => g k z) (G z)) : Lim (fun k => onSum r (fun y => f k y) (fun z => g k z)) (onSum r F G) := by
  cases r with
  | inl y => exact hf y
  | inr z => exact hg z
theorem lim_succ {f : Nat → Option X} {v : Option X} (h : Lim (fun k => f (k + 1)) v) : Lim f v := by
  obtain ⟨k0, hk⟩ := h
  refine ⟨k0 + 1, fun k h => ?_⟩
  obtain ⟨j, rfl⟩ : ∃ j, k = j + 1 := ⟨k - 1, by omega⟩
  exact hk j (by omega)
theorem lim_eq {f g : Nat → Option X} {v : Option X} (h : Lim g v) (e : ∀ k, f k = g k) : Lim f v := by
  obtain ⟨k0, hk⟩ := h
  exact ⟨k0, fun k hk' => (e k).trans (hk k hk')⟩
theorem lim_some {f : Nat → Option X} {v : X} (h : Lim f (some v)) : ∃ k, f k = some v := by
  obtain ⟨k0, hk⟩ := h
  exact ⟨k0, hk k0 (Nat.le_refl _)⟩

/-- A loop that counts: n rounds still to go. -/
def forN {S : Type} (B : Int → S → (S → Option X) → Option X) (E : S → Option X) : Nat → Nat → S → Option X
  | 0, _, s => E s
  | n + 1, i, s => B (i : Int) s (forN B E n (i + 1))
theorem lim_for {S : Type} {L : Nat → S → Int → Option X} {B : Int → S → (S → Option X) → Option X} {E : S → Option X} (len : Nat) (hlen : len ≤ 4611686018427387904)
    (hB : ∀ (i : Nat) s, i < len → ∀ C : S → Option X, (∀ s, Lim (fun k => L k s (IntKind.i64.wrap ((i : Int) + 1))) (C s)) → Lim (fun k => L (k + 1) s (i : Int)) (B i s C)) (hE : ∀ s, Lim (fun k => L (k + 1) s (len : Int)) (E s)) :
    ∀ (n i : Nat) (s : S), n + i = len → Lim (fun k => L k s (i : Int)) (forN B E n i s)
  | 0, i, s, h => by
    have : i = len := by omega
    subst this
    exact lim_succ (hE s)
  | n + 1, i, s, h => by
    refine lim_succ (hB i s (by omega) _ fun s' => ?_)
    have := lim_for len hlen hB hE n (i + 1) s' (by omega)
    rw [wrap_eq (by omega) (by omega)]
    exact this
theorem lim_for0 {S : Type} {L : Nat → S → Int → Option X} {B : Int → S → (S → Option X) → Option X} {E : S → Option X} (len : Nat) (hlen : len ≤ 4611686018427387904)
    (hB : ∀ (i : Nat) s, i < len → ∀ C : S → Option X, (∀ s, Lim (fun k => L k s (IntKind.i64.wrap ((i : Int) + 1))) (C s)) → Lim (fun k => L (k + 1) s (i : Int)) (B i s C)) (hE : ∀ s, Lim (fun k => L (k + 1) s (len : Int)) (E s)) (s : S) :
    Lim (fun k => L k s 0) (forN B E len 0 s) := lim_for len hlen hB hE len 0 s (by omega)
theorem lim_br' {b : Bool} {f g : Nat → Option X} {F G : Option X} (hf : b = true → Lim f F) (hg : b = false → Lim g G) : Lim (fun k => br b (f k) (g k)) (br b F G) := by
  cases b
  · exact hg rfl
  · exact hf rfl
/-- A loop that counts below a bound: n rounds at the most. -/
def forF {S : Type} (B : Int → S → (S → Option X) → Option X) : Nat → Nat → S → Option X
  | 0, _, _ => none
  | n + 1, i, s => B (i : Int) s (forF B n (i + 1))
theorem lim_forF {S : Type} {L : Nat → S → Int → Option X} {B : Int → S → (S → Option X) → Option X} (bound : Int) (hb : bound ≤ 4611686018427387904)
    (hB : ∀ (i : Nat) s, ∀ C : S → Option X, (∀ s, (i : Int) < bound → Lim (fun k => L k s (IntKind.i64.wrap ((i : Int) + 1))) (C s)) → Lim (fun k => L (k + 1) s (i : Int)) (B i s C)) :
    ∀ (n i : Nat) (s : S), 0 < n → bound - i < n → Lim (fun k => L k s (i : Int)) (forF B n i s)
  | 0, i, s, h, _ => absurd h (by omega)
  | n + 1, i, s, _, h => by
    refine lim_succ (hB i s _ fun s' hi => ?_)
    rw [wrap_eq (by omega) (by omega)]
    exact lim_forF bound hb hB n (i + 1) s' (by omega) (by omega)
theorem lim_forF0 {S : Type} {L : Nat → S → Int → Option X} {B : Int → S → (S → Option X) → Option X} (bound : Int) (hb : bound ≤ 4611686018427387904)
    (hB : ∀ (i : Nat) s, ∀ C : S → Option X, (∀ s, (i : Int) < bound → Lim (fun k => L k s (IntKind.i64.wrap ((i : Int) + 1))) (C s)) → Lim (fun k => L (k + 1) s (i : Int)) (B i s C)) (s : S) :
    Lim (fun k => L k s 0) (forF B (bound.toNat + 1) 0 s) := lim_forF bound hb hB _ 0 s (by omega) (by omega)
/-- What is known of an answer, if there is one. -/
def Holds (m : Option Y) (p : Y → Prop) : Prop := ∀ y, m = some y → p y
theorem holds_br {b : Bool} {x y : Option Y} {p : Y → Prop} (hx : Holds x p) (hy : Holds y p) : Holds (br b x y) p := by
  cases b
  · exact hy
  · exact hx
theorem holds_bnd {m : Option Z} {f : Z → Option Y} {p : Y → Prop} (h : ∀ z, Holds (f z) p) : Holds (bnd m f) p := by
  cases m with
  | none => intro y hy; simp [bnd] at hy
  | some z => exact h z
theorem holds_onSum {W : Type} {r : Z ⊕ W} {f : Z → Option Y} {g : W → Option Y} {p : Y → Prop} (hf : ∀ z, Holds (f z) p) (hg : ∀ z, Holds (g z) p) : Holds (onSum r f g) p := by
  cases r with
  | inl z => exact hf z
  | inr z => exact hg z
theorem holds_none {p : Y → Prop} : Holds none p := fun y h => by cases h
theorem holds_some {p : Y → Prop} {x : Y} (h : p x) : Holds (some x) p := fun y e => by cases e; exact h
theorem holds_forF {S : Type} {B : Int → S → (S → Option X) → Option X} {p : X → Prop} (h : ∀ i s C, (∀ s, Holds (C s) p) → Holds (B i s C) p) : ∀ n i s, Holds (forF B n i s) p
  | 0, _, _ => holds_none
  | n + 1, i, s => h i s _ fun s' => holds_forF h n (i + 1) s'
/-- bind, where something is known of what comes first -/
theorem lim_bndP {m : Nat → Option Y} {M : Option Y} {f : Nat → Y → Option X} {F : Y → Option X} (p : Y → Prop) (h : Lim m M) (hp : Holds M p) (hf : ∀ y, p y → Lim (fun k => f k y) (F y)) : Lim (fun k => bnd (m k) (fun y => f k y)) (bnd M F) := by
  obtain ⟨k1, h1⟩ := h
  cases M with
  | none => exact ⟨k1, fun k hk => by simp only [h1 k hk]; rfl⟩
  | some y =>
    obtain ⟨k2, h2⟩ := hf y (hp y rfl)
    exact ⟨max k1 k2, fun k hk => by simp only [h1 k (by omega)]; exact h2 k (by omega)⟩
theorem lim_onSum' {r : Y ⊕ Z} {f : Nat → Y → Option X} {F : Y → Option X} {g : Nat → Z → Option X} {G : Z → Option X} (hf : ∀ y, r = .inl y → Lim (fun k => f k y) (F y)) (hg : ∀ z, r = .inr z → Lim (fun k => g k z) (G z)) : Lim (fun k => onSum r (fun y => f k y) (fun z => g k z)) (onSum r F G) := by
  cases r with
  | inl y => exact hf y rfl
  | inr z => exact hg z rfl
end
end Go.Ev
end

section
/- What an equation with fuel comes to, fuel enough: one way only. -/
set_option linter.unusedSimpArgs false
set_option linter.unusedVariables false
namespace Go.Ev
/-- Where v is an answer, f gives it, with fuel enough. -/
def Lm {X : Type} (f : Nat → Option X) (v : Option X) : Prop := ∀ r, v = some r → ∃ k0, ∀ k, k0 ≤ k → f k = some r
section
variable {X Y Z : Type}
theorem lm_const (v : Option X) : Lm (fun _ => v) v := fun r h => ⟨0, fun _ _ => h⟩
theorem lm_none (f : Nat → Option X) : Lm f none := fun r h => by cases h
theorem lm_bnd {m : Nat → Option Y} {M : Option Y} {f : Nat → Y → Option X} {F : Y → Option X} (h : Lm m M) (hf : ∀ y, Lm (fun k => f k y) (F y)) : Lm (fun k => bnd (m k) (fun y => f k y)) (bnd M F) := by
  intro r hr
  obtain ⟨y, hy, hr⟩ := bnd_some hr
  obtain ⟨k1, h1⟩ := h y hy
  obtain ⟨k2, h2⟩ := hf y r hr
  exact ⟨max k1 k2, fun k hk => by simp only [h1 k (by omega)]; exact h2 k (by omega)⟩
theorem lm_br {b : Bool} {f g : Nat → Option X} {F G : Option X} (hf : Lm f F) (hg : Lm g G) : Lm (fun k => br b (f k) (g k)) (br b F G) := by
  cases b
  · exact hg
  · exact hf
theorem lm_onSum {r : Y ⊕ Z} {f : Nat → Y → Option X} {F : Y → Option X} {g : Nat → Z → Option X} {G : Z → Option X} (hf : ∀ y, Lm (fun k => f k y) (F y)) (hg : ∀ z, Lm (fun k => g k z) (G z)) : Lm (fun k => onSum r (fun y => f k y) (fun z => g k z)) (onSum r F G) := by
  cases r with
  | inl y => exact hf y
  | inr z => exact hg z
theorem lm_eq {f g : Nat → Option X} {v : Option X} (h : Lm g v) (e : ∀ k, f k = g k) : Lm f v := fun r hr => by
  obtain ⟨k0, hk⟩ := h r hr
  exact ⟨k0, fun k hk' => (e k).trans (hk k hk')⟩
theorem lm_some {f : Nat → Option X} {v : X} (h : Lm f (some v)) : ∃ k, f k = some v := by
  obtain ⟨k0, hk⟩ := h v rfl
  exact ⟨k0, hk k0 (Nat.le_refl _)⟩
/-- A loop, n rounds at the most. -/
def forG {S : Type} (B : S → (S → Option X) → Option X) : Nat → S → Option X
  | 0, _ => none
  | n + 1, s => B s (forG B n)
theorem lm_forG {S : Type} {L : Nat → S → Option X} {B : S → (S → Option X) → Option X} (hB : ∀ s (C : S → Option X), (∀ s, Lm (fun k => L k s) (C s)) → Lm (fun k => L (k + 1) s) (B s C)) : ∀ n s, Lm (fun k => L k s) (forG B n s)
  | 0, s => lm_none _
  | n + 1, s => fun r hr => by
    obtain ⟨k0, hk⟩ := hB s _ (lm_forG hB n) r hr
    refine ⟨k0 + 1, fun k h => ?_⟩
    obtain ⟨j, rfl⟩ : ∃ j, k = j + 1 := ⟨k - 1, by omega⟩
    exact hk j (by omega)
end
end Go.Ev
end

section
/- A sort, fuel enough. -/
set_option linter.unusedVariables false
namespace Go.Ev
def tuples {α : Type} (xs : List α) : Nat → List (List α)
  | 0 => [[]]
  | n + 1 => (tuples xs n).flatMap fun l => xs.map fun x => x :: l
theorem mem_tuples {α : Type} {xs : List α} : ∀ (n : Nat) (ys : List α), ys.length = n → (∀ y ∈ ys, y ∈ xs) → ys ∈ tuples xs n
  | 0, ys, h, _ => by
    have := List.eq_nil_of_length_eq_zero h
    subst this
    simp [tuples]
  | n + 1, [], h, _ => by simp at h
  | n + 1, y :: ys, h, hm => by
    simp only [tuples, List.mem_flatMap, List.mem_map]
    exact ⟨ys, mem_tuples n ys (by simpa using h) (fun z hz => hm z (by simp [hz])), y, hm y (by simp), rfl⟩
theorem max_all {β : Type} {Q : Nat → β → Prop} : ∀ (l : List β), (∀ b ∈ l, ∃ k0, ∀ k, k0 ≤ k → Q k b) → ∃ k0, ∀ k, k0 ≤ k → ∀ b ∈ l, Q k b
  | [], _ => ⟨0, fun _ _ b hb => by simp at hb⟩
  | b :: l, h => by
    obtain ⟨k1, h1⟩ := h b (by simp)
    obtain ⟨k2, h2⟩ := max_all l fun c hc => h c (by simp [hc])
    refine ⟨max k1 k2, fun k hk c hc => ?_⟩
    rcases List.mem_cons.1 hc with rfl | hc
    · exact h1 k (by omega)
    · exact h2 k (by omega) c hc
theorem lm_srt {α : Type} {z : α} {less : Nat → List α → Int → Int → Option Bool} {L : List α → Int → Int → Option Bool} {xs : List α} (h : ∀ ys i j, Lm (fun k => less k ys i j) (L ys i j)) : Lm (fun k => srt z (fun ys i j => less k ys i j) xs) (srt z (fun ys i j => L ys i j) xs) := by
  intro r hr
  by_cases h1 : xs.length ≤ 1
  · rw [srt_small h1] at hr
    exact ⟨0, fun k _ => by simp only [srt_small h1, hr]⟩
  · obtain ⟨lt, hok, rfl⟩ := srt_some hr h1
    have hall : ∃ k0, ∀ k, k0 ≤ k → ∀ b ∈ tuples xs xs.length, ∀ i ∈ List.range xs.length, ∀ j ∈ List.range xs.length, less k b (i : Nat) (j : Nat) = some (lt (b.getD i z) (b.getD j z)) ∨ ¬ (b.length = xs.length ∧ ∀ y ∈ b, y ∈ xs) := by
      refine max_all _ fun b hb => ?_
      by_cases hg : b.length = xs.length ∧ ∀ y ∈ b, y ∈ xs
      · refine (max_all (Q := fun k (i : Nat) => ∀ j ∈ List.range xs.length, less k b (i : Nat) (j : Nat) = some (lt (b.getD i z) (b.getD j z)) ∨ ¬ (b.length = xs.length ∧ ∀ y ∈ b, y ∈ xs)) (List.range xs.length) fun i hi => ?_)
        refine (max_all (Q := fun k (j : Nat) => less k b (i : Nat) (j : Nat) = some (lt (b.getD i z) (b.getD j z)) ∨ ¬ (b.length = xs.length ∧ ∀ y ∈ b, y ∈ xs)) (List.range xs.length) fun j hj => ?_)
        obtain ⟨k0, hk0⟩ := h b i j _ (hok.2 b hg.1 hg.2 i j (List.mem_range.1 hi) (List.mem_range.1 hj))
        exact ⟨k0, fun k hk => .inl (hk0 k hk)⟩
      · exact ⟨0, fun k _ i _ j _ => .inr hg⟩
    obtain ⟨k0, hk0⟩ := hall
    refine ⟨k0, fun k hk => ?_⟩
    refine srt_eq ⟨hok.1, fun ys hy hm i j hi hj => ?_⟩
    rcases hk0 k hk ys (mem_tuples _ ys hy hm) i (List.mem_range.2 hi) j (List.mem_range.2 hj) with h | h
    · exact h
    · exact absurd ⟨hy, hm⟩ h
end Go.Ev
end

section
/- Rounds along a list. -/
set_option linter.unusedSimpArgs false
set_option linter.unusedVariables false
namespace Go.Ev
theorem forG_fold {α S R X T : Type} (xs : List α) (z : α) {B : T → (T → Option X) → Option X} (emb : Int → S → T) (g : Nat → α → S → S ⊕ R) (fin : S → X) (out : R → X) (I : Nat → S → Prop)
    (hstep : ∀ (i : Nat) s C, i < xs.length → I i s → B (emb (i : Int) s) C = (match g i (xs.getD i z) s with
      | .inl s' => C (emb ((i + 1 : Nat) : Int) s')
      | .inr r => some (out r)) ∧ ∀ s', g i (xs.getD i z) s = .inl s' → I (i + 1) s')
    (hend : ∀ s C, I xs.length s → B (emb (xs.length : Int) s) C = some (fin s)) :
    ∀ (n i : Nat) (s : S), i ≤ xs.length → xs.length < n + i → I i s → forG B n (emb (i : Int) s) = some (foldE g fin out (xs.drop i) i s)
  | 0, i, s, h1, h2, _ => absurd h1 (by omega)
  | n + 1, i, s, h1, h2, hI => by
    simp only [forG]
    by_cases hi : i < xs.length
    · obtain ⟨e1, e2⟩ := hstep i s (forG B n) hi hI
      have hd : xs.drop i = xs.getD i z :: xs.drop (i + 1) := by
        rw [List.drop_eq_getElem_cons hi]
        simp [List.getD_eq_getElem?_getD, hi]
      rw [e1, hd]
      simp only [foldE]
      cases hg : g i (xs.getD i z) s with
      | inl s' => exact forG_fold xs z emb g fin out I hstep hend n (i + 1) s' (by omega) (by omega) (e2 s' hg)
      | inr r => rfl
    · have : i = xs.length := by omega
      subst this
      rw [hend s _ hI, List.drop_length]
      rfl
theorem forG_fold0 {α S R X T : Type} {xs : List α} (z : α) {B : T → (T → Option X) → Option X} (emb : Int → S → T) (g : Nat → α → S → S ⊕ R) (fin : S → X) (out : R → X) (I : Nat → S → Prop)
    (hstep : ∀ (i : Nat) s C, i < xs.length → I i s → B (emb (i : Int) s) C = (match g i (xs.getD i z) s with
      | .inl s' => C (emb ((i + 1 : Nat) : Int) s')
      | .inr r => some (out r)) ∧ ∀ s', g i (xs.getD i z) s = .inl s' → I (i + 1) s')
    (hend : ∀ s C, I xs.length s → B (emb (xs.length : Int) s) C = some (fin s)) {n : Nat} {s : S} (hn : xs.length < n) (hI : I 0 s) : forG B n (emb 0 s) = some (foldE g fin out xs 0 s) := by
  have := forG_fold xs z emb g fin out I hstep hend n 0 s (Nat.zero_le _) (by omega) hI
  simpa using this
theorem foldE_onSum {α S R A C Y : Type} (g : Nat → α → S → S ⊕ R) (fin : S → A) (out : R → C) (f : A → Option Y) (h : C → Option Y) : ∀ (xs : List α) (i : Nat) (s : S),
    onSum (foldE g (fun s => (.inl (fin s) : A ⊕ C)) (fun r => .inr (out r)) xs i s) f h = foldE g (fun s => f (fin s)) (fun r => h (out r)) xs i s
  | [], _, _ => rfl
  | x :: r, i, s => by
    simp only [foldE]
    cases g i x s with
    | inl s' => exact foldE_onSum g fin out f h r (i + 1) s'
    | inr r => rfl
theorem foldE_map {α S R X Y : Type} (g : Nat → α → S → S ⊕ R) (fin : S → X) (out : R → X) (h : X → Y) : ∀ (xs : List α) (i : Nat) (s : S), foldE g (fun s => h (fin s)) (fun r => h (out r)) xs i s = h (foldE g fin out xs i s)
  | [], _, _ => rfl
  | x :: r, i, s => by
    simp only [foldE]
    cases g i x s with
    | inl s' => exact foldE_map g fin out h r (i + 1) s'
    | inr r => rfl
end Go.Ev
end
