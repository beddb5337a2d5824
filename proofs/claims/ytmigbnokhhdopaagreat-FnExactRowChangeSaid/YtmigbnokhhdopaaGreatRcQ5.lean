import Derived.Test.YtmigbnokhhdopaaGreatRcQ4
set_option linter.unusedSimpArgs false
set_option linter.unusedVariables false
set_option maxRecDepth 100000
namespace Go.Ev.T1
open Go Go.Proofs
theorem cap_ok' {n : Nat} (h : n ≤ 4000000) : n ≤ capN := Nat.le_trans h (by decide +kernel)
variable {t : y4q} {row : List y3q}
noncomputable def kx (t : y4q) (row : List y3q) (n : Nat) : List (List UInt8) := (t.2.2.2.2.2.1.take n).map fun x => (entry t x row).1
theorem kx_succ {n : Nat} (h : n < t.2.2.2.2.2.1.length) : kx t row (n + 1) = kx t row n ++ [(entry t (ix t n) row).1] :=
 (take_map (fun x : y13q => (entry t x row).1) y47q t.2.2.2.2.2.1 h).symm
theorem kx_len (n : Nat) : (kx t row n).length ≤ n := by
 unfold kx
 rw [List.length_map, List.length_take]
 omega
theorem specKeysLoop (ht : t.2.2.2.1.length ≤ 1048576) (hr : SmRow row) (hT : SpecTable t) (hf : RowFits t row) (ps : List DPair) (ds : List (List UInt8)) (k0 : List UInt8) : F_u58f_l0 row t ps ds [k0] 0 = some (ps, ds, k0 :: kx t row t.2.2.2.2.2.1.length) := by
 have hkey := hT.2.2.2.2.2.2.2.2.2.1
 have h8 := hT.2.2.2.2.2.2.2.1
 unfold F_u58f_l0
 refine y92q (fun i => (row, t, ps, ds, k0 :: kx t row i, ((i : Nat) : Int))) t.2.2.2.2.2.1.length _ (fun i C h => ?_) (fun C => ?_) _ 0 (Nat.zero_le _) (by omega)
 ·unfold B_u58f_l0
  have hix := hT.2.2.2.2.2.2.2.2.2.2 i h
  have hco := hix.2.2.2.2.2.1
  have hel := kx_len (t := t) (row := row) i
  rw [kx_succ h]
  simp (disch := omega) only [y10q, Int.toNat_natCast]
  rw [y6q (by omega), y6q (by omega), y6q (by omega)]
  show bnd (F_u54f t (ix t i) row) _ = _
  rw [specEntry ht hr.2 _ hco.2.1 hkey.2.1 (cols_of hf.1 hco.2.2.2) (cols_of hf.1 hkey.2.2.2), y0q, y6q (y124q (by simp; omega))]
  simp
 ·unfold B_u58f_l0
  exact y16q (by simp) _ _
theorem implKeysLoop (ht : t.2.2.2.1.length ≤ 1048576) (hr : SmRow row) (hT : SpecTable t) (hf : RowFits t row) (ps : List DPair) (ds : List (List UInt8)) (k0 : List UInt8) : F_u77f_l0 row t ps ds [k0] t.2.2.2.2.2.1 (t.2.2.2.2.2.1.length : Int) 0 = some (ps, ds, k0 :: kx t row t.2.2.2.2.2.1.length) := by
 have hkey := hT.2.2.2.2.2.2.2.2.2.1
 have h8 := hT.2.2.2.2.2.2.2.1
 unfold F_u77f_l0
 refine y92q (fun i => (row, t, ps, ds, k0 :: kx t row i, t.2.2.2.2.2.1, (t.2.2.2.2.2.1.length : Int), ((i : Nat) : Int))) t.2.2.2.2.2.1.length _ (fun i C h => ?_) (fun C => ?_) _ 0 (Nat.zero_le _) (by omega)
 ·unfold B_u77f_l0
  have hix := hT.2.2.2.2.2.2.2.2.2.2 i h
  have hco := hix.2.2.2.2.2.1
  have hel := kx_len (t := t) (row := row) i
  rw [kx_succ h]
  simp (disch := omega) only [y10q, Int.toNat_natCast]
  rw [y6q (by omega), y6q (by omega), y6q (by omega)]
  show bnd (F_u69f t (ix t i) row) _ = _
  rw [implEntry ht hr.2 _ hco.2.1 hkey.2.1 (cols_of hf.1 hco.2.2.2) (cols_of hf.1 hkey.2.2.2), y0q, y6q (y124q (by simp; omega))]
  simp
 ·unfold B_u77f_l0
  exact y16q (by simp) _ _
def isPut (ps : List DPair) (k : List UInt8) : Bool := ps.any fun p => decide (p.1 = k)
def y163q (ps : List DPair) (ks : List (List UInt8)) : List (List UInt8) := ks.filter fun k => !isPut ps k
theorem isPut_next (ps : List DPair) (k : List UInt8) {i : Nat} (h : i < ps.length) : isPut (ps.take (i + 1)) k = (isPut (ps.take i) k || decide ((ps.getD i ZPair).1 = k)) := by
 unfold isPut
 rw [List.take_succ_eq_append_getElem h, List.any_append]
 congr 1
 simp [List.getD_eq_getElem?_getD, h]
theorem brFF {ρ : Type} (x y : Option ρ) : br false x y = y := rfl
theorem brTT {ρ : Type} (x y : Option ρ) : br true x y = x := rfl
theorem drops_next (ps : List DPair) (ks : List (List UInt8)) {i : Nat} (h : i < ks.length) : y163q ps (ks.take (i + 1)) = y163q ps (ks.take i) ++ (if isPut ps (ks.getD i zStr) = true then [] else [ks.getD i zStr]) := by
 have e : ks.take (i + 1) = ks.take i ++ [ks.getD i zStr] := by
  rw [List.take_succ_eq_append_getElem h]
  simp [List.getD_eq_getElem?_getD, h]
 unfold y163q
 rw [e, List.filter_append]
 congr 1
 cases hp : isPut ps (ks.getD i zStr) <;> rw [List.filter_cons, hp] <;> rfl
theorem drops_len (ps : List DPair) (ks : List (List UInt8)) (i : Nat) : (y163q ps (ks.take i)).length ≤ i := by
 have := List.length_filter_le (fun k => !isPut ps k) (ks.take i)
 rw [List.length_take] at this
 unfold y163q
 omega
theorem specPut (ps : List DPair) (ds ks : List (List UInt8)) {i : Nat} (hp : ps.length ≤ 1048576) (hi : i < ks.length) (hk : ks.length ≤ 1048576) : F_u58f_l4 ps ds ks (i : Int) false 0 = some (ps, ds, ks, (i : Int), isPut ps (ks.getD i zStr)) := by
 unfold F_u58f_l4
 refine y92q (fun j => (ps, ds, ks, (i : Int), isPut (ps.take j) (ks.getD i zStr), ((j : Nat) : Int))) ps.length _ (fun j C h => ?_) (fun C => ?_) _ 0 (Nat.zero_le _) (by omega)
 ·unfold B_u58f_l4
  rw [isPut_next ps _ h]
  simp (disch := omega) only [y10q, Int.toNat_natCast, y53q]
  rw [y6q (by omega)]
  cases hq : isPut (ps.take j) (ks.getD i zStr) with
  | true => rfl
  | false =>
   rw [brFF, y6q (by omega), y6q (by omega), y6q (by omega), y6q (by omega)]
   rfl
 ·unfold B_u58f_l4
  rw [List.take_length]
  exact y16q (by simp) _ _
theorem specDrops (ps : List DPair) (ks : List (List UInt8)) (hp : ps.length ≤ 1048576) (hk : ks.length ≤ 1048576) : F_u58f_l2 ps [] ks 0 = some (ps, y163q ps ks) := by
 unfold F_u58f_l2
 refine y92q (fun i => (ps, y163q ps (ks.take i), ks, ((i : Nat) : Int))) ks.length _ (fun i C h => ?_) (fun C => ?_) _ 0 (Nat.zero_le _) (by omega)
 ·unfold B_u58f_l2
  have hdl := drops_len ps ks i
  rw [drops_next ps ks h]
  show br (decide ((i : Int) < ks.length)) (bnd (F_u58f_l4 ps (y163q ps (ks.take i)) ks (i : Int) false 0) _) _ = _
  rw [y6q (by omega), specPut ps _ ks hp h hk, y0q]
  simp (disch := omega) only [y10q, Int.toNat_natCast]
  cases hq : isPut ps (ks.getD i zStr) with
  | true =>
   rw [if_pos rfl, List.append_nil]
   rfl
  | false =>
   rw [if_neg (by simp), Bool.not_false, brTT, y6q (by omega), y6q (cap_ok' (by simp; omega)), y6q (by omega)]
 ·unfold B_u58f_l2
  rw [List.take_length]
  exact y16q (by simp) _ _
theorem implHas (ps : List DPair) (k : List UInt8) (hp : ps.length ≤ 1048576) : F_slices_ContainsFunc_Pair ps (k, ()) = some (isPut ps k) := by
 have key : F_slices_IndexFunc_Pair ps (k, ()) = some (idx (fun p => decide (p.1 = k)) ps) := by
  unfold F_slices_IndexFunc_Pair F_slices_IndexFunc_Pair_l0
  refine Eq.trans (bnd_eq (idx_loop (xs := ps) (p := fun p => decide (p.1 = k)) (z := ZPair) (B := B_slices_IndexFunc_Pair_l0) (fun i => (ps, (k, ()), (ps.length : Int), ((i : Nat) : Int))) (fun i => .inr ((i : Nat) : Int)) (.inl ()) (fun i C hi => ?_) (fun C => ?_) (by omega))) (idx_some _ _)
  ·unfold B_slices_IndexFunc_Pair_l0 F_u76f
   simp (disch := omega) only [y10q, Int.toNat_natCast, y53q, br_if, if_pos, decide_eq_true_eq, y0q]
  ·unfold B_slices_IndexFunc_Pair_l0
   exact y16q (by simp) _ _
 unfold F_slices_ContainsFunc_Pair
 show bnd (F_slices_IndexFunc_Pair ps (k, ())) _ = _
 rw [key, y0q]
 congr 1
 rw [Bool.eq_iff_iff, decide_eq_true_eq, idx_nonneg]
 unfold isPut
 rw [List.any_eq_true]
theorem implDrops (ps : List DPair) (ks : List (List UInt8)) (hp : ps.length ≤ 1048576) (hk : ks.length ≤ 1048576) : F_u77f_l2 ps [] ks (ks.length : Int) 0 = some (ps, y163q ps ks) := by
 unfold F_u77f_l2
 refine y92q (fun i => (ps, y163q ps (ks.take i), ks, (ks.length : Int), ((i : Nat) : Int))) ks.length _ (fun i C h => ?_) (fun C => ?_) _ 0 (Nat.zero_le _) (by omega)
 ·unfold B_u77f_l2
  have hdl := drops_len ps ks i
  rw [drops_next ps ks h]
  simp (disch := omega) only [y10q, Int.toNat_natCast]
  rw [y6q (by omega), y6q (by omega), y6q (by omega), implHas ps _ hp, y0q]
  cases hq : isPut ps (ks.getD i zStr) with
  | true =>
   rw [if_pos rfl, List.append_nil]
   rfl
  | false =>
   rw [if_neg (by simp)]
   show br (decide _) _ _ = _
   rw [y6q (cap_ok' (by simp; omega))]
 ·unfold B_u77f_l2
  rw [List.take_length]
  exact y16q (by simp) _ _
noncomputable def putsOf (t : y4q) (now : List y3q) : List DPair × Int := if now = [] then ([], 0) else pairsOf t now
noncomputable def keysOf (t : y4q) (row : List y3q) : List (List UInt8) := (y65q t row).1.1 :: kx t row t.2.2.2.2.2.1.length
open Classical in
noncomputable def y129q (t : y4q) (old now : List y3q) : List DPair × List (List UInt8) × Int :=
 if SpecTable t ∧ (old ≠ [] → RowFits t old) ∧ (now ≠ [] → RowFits t now) then
  if (putsOf t now).2 = 0 then
   if old = [] then ((putsOf t now).1, [], 0)
   else if (y65q t old).2 = 0 then ((putsOf t now).1, y163q (putsOf t now).1 (keysOf t old), 0) else ([], [], (y65q t old).2)
  else ([], [], (putsOf t now).2)
 else ([], [], 1)
theorem puts_len (t : y4q) (now : List y3q) : (putsOf t now).1.length ≤ 1048576 := by
 unfold putsOf
 split
 ·simp
 ·unfold pairsOf
  split
  ·rename_i h
   have h8 := h.1.2.2.2.2.2.2.2.1
   split
   ·have hel := ents_le (t := t) (row := now) t.2.2.2.2.2.1.length
    simp only [List.length_cons]
    omega
   ·simp
  ·simp
theorem lenpos {α : Type} (l : List α) : ((l.length : Int) > 0) ↔ l ≠ [] := by
 cases l with
 | nil => simp
 | cons => simp
variable {old now : List y3q}
theorem rows_ans {X : Type} {F : y4q → List y3q → Option Bool} (hF : ∀ r, SmRow r → Ans (F t r) (some true) (some false) (RowFits t r)) (ho : SmRow old) (hn : SmRow now) (yes no : Option X) :
  Ans (br (decide ((old.length : Int) > 0)) (bnd (F t old) fun y2 => br (!y2) no (br (decide ((now.length : Int) > 0)) (bnd (F t now) fun y3 => br (!y3) no yes) yes)) (br (decide ((now.length : Int) > 0)) (bnd (F t now) fun y2 => br (!y2) no yes) yes)) yes no
   ((old ≠ [] → RowFits t old) ∧ (now ≠ [] → RowFits t now)) := by
 have hnow : Ans (br (decide ((now.length : Int) > 0)) (bnd (F t now) fun y2 => br (!y2) no yes) yes) yes no (now ≠ [] → RowFits t now) := by
  refine y23q (ans_br_yes' fun h => y32q (hF now hn) rfl rfl) ?_
  rw [lenpos]
 by_cases h : (old.length : Int) > 0
 ·rw [y6q h]
  refine y23q (y15q (hF old ho) rfl fun _ => hnow) ?_
  have := (lenpos old).1 h
  simp [this]
 ·rw [y16q h]
  refine y23q hnow ?_
  have : old = [] := Classical.not_not.1 fun h' => h ((lenpos old).2 h')
  simp [this]
end Go.Ev.T1
