/- FlatOK: the columns of the scans. -/
import Derived.Test.YtlgmddbndbobfaaFltCatQ7
import Derived.Test.YtlgmddbndbobfaaValQ1
set_option linter.unusedSimpArgs false
set_option linter.unusedVariables false
set_option linter.unusedSectionVars false
set_option maxRecDepth 100000
namespace Go.Ev.T1
open Go Go.Proofs
def tabAt (l : List DTable) (nm : List UInt8) : Int := idx (fun t => decide (t.2.1 = nm)) l
def colsFor (l : List DTable) (nm : List UInt8) : List DColumn := (tb l (tabAt l nm).toNat).2.2.2.1
abbrev sc (s : List (List UInt8)) (j : Nat) : List UInt8 := s.getD j zStr
def colsOf (l : List DTable) (s : List (List UInt8)) (n : Nat) : List DColumn := (List.range n).flatMap fun j => colsFor l (sc s j)
def numsOf (l : List DTable) (s : List (List UInt8)) (n : Nat) : List Int := (List.range n).flatMap fun j => List.replicate (colsFor l (sc s j)).length (j : Int)
theorem range_flat {α : Type} (f : Nat → List α) (i : Nat) : (List.range i).flatMap f ++ f i = (List.range (i + 1)).flatMap f := by
  rw [List.range_succ, List.flatMap_append]; simp
variable {l : List DTable} (hl : SmTables l)
include hl
theorem tabAt_lt {nm : List UInt8} (h : ¬ tabAt l nm < 0) : (tabAt l nm).toNat < l.length := by
  have := idx_lt (p := fun t : DTable => decide (t.2.1 = nm)) (xs := l)
  unfold tabAt at h ⊢
  omega
theorem colsFor_le (nm : List UInt8) (h : ¬ tabAt l nm < 0) : (colsFor l nm).length ≤ 1048576 := (tbSm hl (tabAt_lt hl h)).2.2.2.1.1
theorem colsOf_le {s : List (List UInt8)} : ∀ n, (∀ j, j < n → ¬ tabAt l (sc s j) < 0) → (colsOf l s n).length ≤ n * 1048576
  | 0, _ => by simp [colsOf]
  | n + 1, h => by
    have h1 := colsOf_le n fun j hj => h j (by omega)
    have h2 := colsFor_le hl (sc s n) (h n (by omega))
    unfold colsOf at h1 ⊢
    rw [← range_flat]
    simp only [List.length_append]
    omega
theorem numsOf_le {s : List (List UInt8)} : ∀ n, (∀ j, j < n → ¬ tabAt l (sc s j) < 0) → (numsOf l s n).length ≤ n * 1048576
  | 0, _ => by simp [numsOf]
  | n + 1, h => by
    have h1 := numsOf_le n fun j hj => h j (by omega)
    have h2 := colsFor_le hl (sc s n) (h n (by omega))
    unfold numsOf at h1 ⊢
    rw [← range_flat]
    simp only [List.length_append, List.length_replicate]
    omega
theorem specCols_l2 (s : List (List UInt8)) (of : List Int) (cs : List DColumn) (n : Int) (nm : List UInt8) (h : ¬ tabAt l nm < 0) (h1 : of.length ≤ 4194304) (h2 : cs.length ≤ 4194304) :
    F_spec_l11Cols_l2 l s of cs n (tabAt l nm) 0 = some (l, s, of ++ List.replicate (colsFor l nm).length n, cs ++ colsFor l nm, n) := by
  have hlt := tabAt_lt hl h
  have hc := colsFor_le hl nm h
  have hll := hl.1
  have hn : tabAt l nm = ((tabAt l nm).toNat : Int) := by omega
  unfold colsFor at hc ⊢
  generalize hm : (tabAt l nm).toNat = m at *
  rw [hn]
  unfold F_spec_l11Cols_l2
  simp only [tb, Int.toNat_natCast] at hc ⊢
  have key := (ans_loop (B := B_spec_l11Cols_l2) (yes := some (l, s, of ++ List.replicate (l.getD m ZTable).2.2.2.1.length n, cs ++ (l.getD m ZTable).2.2.2.1, n)) (no := none) (p := fun _ => True)
    (fun k => (l, s, of ++ List.replicate k n, cs ++ (l.getD m ZTable).2.2.2.1.take k, n, (m : Int), ((k : Nat) : Int))) (l.getD m ZTable).2.2.2.1.length (fun k C hk _ => ?_) (fun C _ => ?_) (n := (((l.getD m ZTable).2.2.2.1.length : Nat) : Int).toNat + 1) (by omega)).1 fun _ _ => trivial
  · simpa using key
  · unfold B_spec_l11Cols_l2
    simp (disch := omega) only [wrap_succ, Int.toNat_natCast]
    refine ans_chk (by omega) (ans_chk (by omega) (ans_chk (by omega) (ans_chk (by simp [capN]; omega) (ans_chk (by omega) (ans_chk (by omega) (ans_chk (by omega) (ans_chk (by omega) (ans_chk (by simp [capN]; omega) (ans_end ?_)))))))))
    congr 1
    have e1 : of ++ List.replicate k n ++ [n] = of ++ List.replicate (k + 1) n := by rw [List.replicate_succ']; simp
    have e2 : cs ++ (l.getD m ZTable).2.2.2.1.take k ++ [(l.getD m ZTable).2.2.2.1.getD k ZColumn] = cs ++ (l.getD m ZTable).2.2.2.1.take (k + 1) := by
      rw [List.take_succ_eq_append_getElem hk, getD_get hk]; simp
    rw [e1, e2]
  · unfold B_spec_l11Cols_l2
    simp only [Int.toNat_natCast, List.take_length]
    rw [br_pos (by omega), br_pos (by omega)]
    exact br_neg (by simp) _ _
theorem specCols (s : List (List UInt8)) (h4 : s.length ≤ 4) (hex : ∀ j, j < s.length → ¬ tabAt l (sc s j) < 0) : F_spec_l11Cols l s = some (numsOf l s s.length, colsOf l s s.length) := by
  unfold F_spec_l11Cols F_spec_l11Cols_l0
  have key := (ans_loop (B := B_spec_l11Cols_l0) (yes := some (numsOf l s s.length, colsOf l s s.length)) (no := none) (p := fun _ => True)
    (fun i => (l, s, numsOf l s i, colsOf l s i, ((i : Nat) : Int))) s.length (fun i C hi _ => ?_) (fun C _ => ?_) (n := ((s.length : Nat) : Int).toNat + 1) (by omega)).1 fun _ _ => trivial
  · rw [show (l, s, ([] : List Int), ([] : List DColumn), (0 : Int)) = (l, s, numsOf l s 0, colsOf l s 0, ((0 : Nat) : Int)) from rfl, key]; rfl
  · have hx := hex i hi
    have n1 := numsOf_le hl (s := s) i fun j hj => hex j (by omega)
    have n2 := colsOf_le hl (s := s) i fun j hj => hex j (by omega)
    unfold B_spec_l11Cols_l0
    simp (disch := omega) only [Int.toNat_natCast]
    refine ans_chk (by omega) (ans_chk (by omega) (ans_chk (by omega) (ans_val (specTableAt hl _) (ans_chkn hx ?_))))
    refine ans_val (specCols_l2 hl s (numsOf l s i) (colsOf l s i) (i : Int) (sc s i) hx (by omega) (by omega)) (ans_end ?_)
    simp only
    rw [wrap_succ (by omega)]
    congr 1
    unfold numsOf colsOf
    rw [range_flat (fun j => List.replicate (colsFor l (sc s j)).length (j : Int)), range_flat (fun j => colsFor l (sc s j))]
  · unfold B_spec_l11Cols_l0
    exact br_neg (by simp) _ _
theorem implTableAt (nm : List UInt8) : F_impl_kTable l nm = some (tabAt l nm) := by
  have h := hl.1
  have key : F_slices_IndexFunc_Table l (nm, ()) = some (tabAt l nm) := by
    unfold F_slices_IndexFunc_Table F_slices_IndexFunc_Table_l0
    refine Eq.trans (bnd_eq (idx_loop (xs := l) (z := ZTable) (B := B_slices_IndexFunc_Table_l0) (fun i => (l, (nm, ()), (l.length : Int), ((i : Nat) : Int))) (fun i => .inr ((i : Nat) : Int)) (.inl ()) (fun i C hi => ?_) (fun C => ?_) (by omega))) (idx_some _ _)
    · unfold B_slices_IndexFunc_Table_l0 F_impl_kTable_1
      simp (disch := omega) only [wrap_succ, Int.toNat_natCast, beq_dec, br_if, if_pos, bnd_some', decide_eq_true_eq]
    · unfold B_slices_IndexFunc_Table_l0
      exact br_neg (by simp) _ _
  unfold F_impl_kTable
  rw [key]; rfl
def fcol (j k : Nat) (c : DColumn) : DkFlatCol := ((j : Int), (k : Int), c, c.2.1, ())
def fcFor (l : List DTable) (nm : List UInt8) (j n : Nat) : List DkFlatCol := (List.range n).map fun k => fcol j k ((colsFor l nm).getD k ZColumn)
def fcOf (l : List DTable) (s : List (List UInt8)) (n : Nat) : List DkFlatCol := (List.range n).flatMap fun j => fcFor l (sc s j) j (colsFor l (sc s j)).length
omit hl in
theorem range_map {α : Type} (f : Nat → α) (k : Nat) : (List.range k).map f ++ [f k] = (List.range (k + 1)).map f := by
  rw [List.range_succ, List.map_append]; simp
omit hl in
theorem fcOf_cols (s : List (List UInt8)) (n : Nat) : (fcOf l s n).map (fun x => x.2.2.1) = colsOf l s n := by
  unfold fcOf colsOf fcFor
  rw [List.map_flatMap]
  congr 1
  funext j
  rw [List.map_map]
  apply List.ext_getElem
  · simp
  · intro k h1 h2
    simp only [List.length_map, List.length_range] at h1
    simp only [List.getElem_map, List.getElem_range, Function.comp, fcol, getD_get h1]
omit hl in
theorem fcOf_len (s : List (List UInt8)) (n : Nat) : (fcOf l s n).length = (colsOf l s n).length := by rw [← fcOf_cols, List.length_map]
omit hl in
theorem fcOf_get (s : List (List UInt8)) (n i : Nat) (hi : i < (colsOf l s n).length) : ((fcOf l s n).getD i ZkFlatCol).2.2.1 = (colsOf l s n).getD i ZColumn := by
  have h2 : i < (fcOf l s n).length := by rw [fcOf_len]; exact hi
  rw [getD_get hi, getD_get h2]
  simp only [← fcOf_cols, List.getElem_map]
theorem implCols_l2 (s : List (List UInt8)) (fc : List DkFlatCol) (j : Nat) (n m : Int) (nm : List UInt8) (h : ¬ tabAt l nm < 0) (h2 : fc.length ≤ 4194304) :
    F_impl_kFlatCols_l2 l fc (j : Int) s n m (colsFor l nm) ((colsFor l nm).length : Int) 0 = some (l, fc ++ fcFor l nm j (colsFor l nm).length, s, n, m) := by
  have hc := colsFor_le hl nm h
  unfold F_impl_kFlatCols_l2
  have key := (ans_loop (B := B_impl_kFlatCols_l2) (yes := some (l, fc ++ fcFor l nm j (colsFor l nm).length, s, n, m)) (no := none) (p := fun _ => True)
    (fun k => (l, fc ++ fcFor l nm j k, (j : Int), s, n, m, colsFor l nm, ((colsFor l nm).length : Int), ((k : Nat) : Int))) (colsFor l nm).length (fun k C hk _ => ?_) (fun C _ => ?_) (n := (((colsFor l nm).length : Nat) : Int).toNat + 1) (by omega)).1 fun _ _ => trivial
  · simpa [fcFor] using key
  · unfold B_impl_kFlatCols_l2
    simp (disch := omega) only [wrap_succ, Int.toNat_natCast]
    refine ans_chk (by omega) (ans_chk (by omega) (ans_chk (by omega) (ans_chk (by simp [capN, fcFor]; omega) (ans_end ?_))))
    congr 1
    have e2 : fc ++ fcFor l nm j k ++ [fcol j k ((colsFor l nm).getD k ZColumn)] = fc ++ fcFor l nm j (k + 1) := by
      unfold fcFor; rw [← range_map, List.append_assoc]
    rw [← e2]; rfl
  · unfold B_impl_kFlatCols_l2
    exact br_neg (by simp) _ _
theorem implCols (s : List (List UInt8)) (h4 : s.length ≤ 4) : Ans (F_impl_kFlatCols l s) (some (fcOf l s s.length, true)) (some ([], false)) (∀ j, j < s.length → ¬ tabAt l (sc s j) < 0) := by
  unfold F_impl_kFlatCols F_impl_kFlatCols_l0
  refine ans_bnd_end (a := .inl (fcOf l s s.length)) (b := .inr ([], false)) (ans_loop (fun i => (l, fcOf l s i, s, (s.length : Int), ((i : Nat) : Int))) s.length _ (fun i C hi hb => ?_) (fun C _ => ?_) (by omega)) rfl rfl
  · have n2 := colsOf_le hl (s := s) i fun j hj => hb j (by omega)
    rw [← fcOf_len] at n2
    unfold B_impl_kFlatCols_l0
    simp (disch := omega) only [Int.toNat_natCast]
    refine ans_iff (ans_chk (by omega) (ans_chk (by omega) (ans_chk (by omega) (ans_val (implTableAt hl _) (ans_br_no fun hx => ans_chk (Int.not_lt.1 hx) (ans_chk (idx_lt (p := fun t : DTable => decide (t.2.1 = sc s i))) (ans_val (implCols_l2 hl s (fcOf l s i) i (s.length : Int) (i : Int) (sc s i) hx (by omega)) (ans_end ?_)))))))) ?_
    · simp only
      rw [wrap_succ (by omega)]
      congr 1
      unfold fcOf
      rw [range_flat (fun j => fcFor l (sc s j) j (colsFor l (sc s j)).length)]
    · simp only [and_true]
  · unfold B_impl_kFlatCols_l0
    exact br_neg (by simp) _ _
end Go.Ev.T1
