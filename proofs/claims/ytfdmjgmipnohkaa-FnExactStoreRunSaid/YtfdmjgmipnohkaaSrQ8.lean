import Derived.Test.YtfdmjgmipnohkaaSrQ7
set_option linter.unusedSimpArgs false
set_option linter.unusedVariables false
namespace Go.Ev.T1
open Go Go.Proofs
theorem take_snoc {α : Type} {l : List α} {i : Nat} {z : α} (hi : i < l.length) : l.take i ++ [l.getD i z] = l.take (i + 1) := by
 rw [List.take_succ_eq_append_getElem hi, y33q hi]
theorem specCopy (s : y3q) (h0 : s.1.length ≤ 1048576) (h1 : s.2.1.length ≤ 1048576) (h2 : ∀ r ∈ s.2.1, r.1.length ≤ 1048576) : F_u17f s = some s := by
 have key : F_u17f_l0 s ([], [], (0, 0, ()), ()) ([] ++ s.1, [], s.2.2.1, ()) 0 = some (([], [], (0, 0, ()), ()), s) := by
  unfold F_u17f_l0
  have := y38q (B := B_u17f_l0) (fun i => (s, ([], [], (0, 0, ()), ()), ([] ++ s.1, s.2.1.take i, s.2.2.1, ()), ((i : Nat) : Int))) s.2.1.length (some (([], [], (0, 0, ()), ()), s)) (fun i C hi => ?_) (fun C => ?_) (((s.2.1.length : Nat) : Int).toNat + 1) 0 (Nat.zero_le _) (by simp)
  ·simpa using this
  ·unfold B_u17f_l0
   have hr := h2 (s.2.1.getD i ZRun) (mem_getD hi)
   simp (disch := omega) only [y9q, Int.toNat_natCast]
   rw [y2q (by omega), y2q (by omega), y2q (by omega), y2q (by unfold capN; omega), y2q (by omega), y2q (by omega), y2q (by simp only [List.length_take, List.length_cons, List.length_nil]; unfold capN; omega)]
   rw [← take_snoc (z := ZRun) hi]
   rfl
  ·unfold B_u17f_l0
   rw [y11q (by simp)]
   simp
 unfold F_u17f
 rw [y2q (by unfold capN; omega), key]
 rfl
theorem implCopied (s : y3q) (h0 : s.1.length ≤ 1048576) (h1 : s.2.1.length ≤ 1048576) (h2 : ∀ r ∈ s.2.1, r.1.length ≤ 1048576) : F_u49f s = some s := by
 have key : F_u49f_l0 ([], [], (0, 0, ()), ()) (s.1, [], s.2.2.1, ()) s.2.1 ((s.2.1.length : Nat) : Int) 0 = some (([], [], (0, 0, ()), ()), s) := by
  unfold F_u49f_l0
  have := y38q (B := B_u49f_l0) (fun i => (([], [], (0, 0, ()), ()), (s.1, s.2.1.take i, s.2.2.1, ()), s.2.1, ((s.2.1.length : Nat) : Int), ((i : Nat) : Int))) s.2.1.length (some (([], [], (0, 0, ()), ()), s)) (fun i C hi => ?_) (fun C => ?_) (((s.2.1.length : Nat) : Int).toNat + 1) 0 (Nat.zero_le _) (by simp)
  ·simpa using this
  ·unfold B_u49f_l0
   have hr := h2 (s.2.1.getD i ZRun) (mem_getD hi)
   simp (disch := omega) only [y9q, Int.toNat_natCast]
   rw [y2q (by omega), y2q (by omega), y2q (by omega), y2q (by unfold capN; omega), y2q (by simp only [List.length_take, List.length_cons, List.length_nil]; unfold capN; omega)]
   rw [← take_snoc (z := ZRun) hi]
  ·unfold B_u49f_l0
   rw [y11q (by simp)]
   simp
 unfold F_u49f
 rw [y2q (by unfold capN; omega), key]
 rfl
theorem srtOk2 (xs : List y0q) : SrtOk y1q (fun ys i j => bnd (F_u50f i j ys) fun y => some y) xs ahead := by
 refine ⟨y32q, fun ys hy _ i j hi hj => ?_⟩
 show bnd (F_u50f i j ys) _ = _
 unfold F_u50f
 rw [y2q (by omega), y2q (by omega), y2q (by omega), y2q (by omega), implBefore]
 simp only [Int.toNat_natCast]
 rfl
theorem implSorted (l : List y0q) (h : l.length ≤ 1048576 + 1) : F_u51f l = some (stab ahead l) := by
 unfold F_u51f
 rw [y2q (by unfold capN; omega), srt_eq (srtOk2 _)]
 rfl
theorem joinBoth (a b : List y0q) (ha : Strict a) (hb : Strict b) (h : (a ++ b).Pairwise fun a b => ¬ Tie a b) : mrg ahead b a = stab ahead (a ++ b) := by
 have p1 : (mrg ahead b a).Perm (a ++ b) := (mrg_perm b a).trans List.perm_append_comm
 have p2 := y39q (lt := ahead) (a ++ b)
 have s1 : Strict (mrg ahead b a) := (y91q (mrg_srt y32q (y128q hb) (y128q ha))).2 ((p1.pairwise_iff fun {a b} => tie_symm).2 h)
 have s2 : Strict (stab ahead (a ++ b)) := (y91q (y103q y32q _)).2 ((p2.pairwise_iff fun {a b} => tie_symm).2 h)
 exact List.Perm.eq_of_pairwise (fun a b _ _ h1 h2 => absurd h2 fun h2 => by
  have := y32q.asym _ _ (y28q.2 h1); rw [y28q.2 h2] at this; cases this) s1 s2 (p1.trans p2.symm)
theorem mixEl_self : ∀ (t : Ty) (x : t.den), mixEl t x x = x
 | .int _, _ | .bool, _ | .str, _ | .sl _, _ | .unit, _ | .any, _ | .osl _ _, _ | .mp _ _, _ | .omp _ _, _ => rfl
 | .pair a b, x => by
  show (mixEl a x.1 x.1, mixEl b x.2 x.2) = x
  rw [mixEl_self a, mixEl_self b]
theorem mixL_take (t : Ty) : ∀ (l : List t.den) (i : Nat), mixL t (l.take i) l = l.take i
 | [], i => by simp [mixL]
 | x :: l, 0 => by simp [mixL]
 | x :: l, i + 1 => by
  have := mixL_take t l i
  unfold mixL at this ⊢
  rw [List.take_succ_cons, List.zipWith_cons_cons, mixEl_self, this]
theorem filt_len (ks : List (List UInt8)) : (filt ks).length ≤ 1048576 := by
 unfold filt rowL
 rw [List.length_map, fold_len, List.length_replicate]
 unfold filtN
 omega
theorem runs_split {l : List DRun} {i : Nat} (h : i + 1 < l.length) : l = l.take i ++ l.getD i ZRun :: l.getD (i + 1) ZRun :: l.drop (i + 2) := by
 rw [y33q h, y33q (show i < l.length by omega), List.getElem_cons_drop, List.getElem_cons_drop, List.take_append_drop]
theorem runs_apart {s : y3q} (h : Strict (stab ahead (rawAll s))) {i : Nat} (hi : i + 1 < s.2.1.length) : ((s.2.1.getD i ZRun).1 ++ (s.2.1.getD (i + 1) ZRun).1).Pairwise fun a b => ¬ Tie a b := by
 have h1 : (rawAll s).Pairwise fun a b => ¬ Tie a b := ((y39q (rawAll s)).pairwise_iff fun {a b} => tie_symm).1 ((y91q (y103q y32q _)).1 h)
 unfold rawAll at h1
 have h2 := (List.pairwise_append.1 h1).2.1
 rw [runs_split hi] at h2
 rw [List.flatMap_append] at h2
 have h3 := (List.pairwise_append.1 h2).2.1
 rw [List.flatMap_cons, List.flatMap_cons, ← List.append_assoc] at h3
 exact (List.pairwise_append.1 h3).1
def runOf (a b : DRun) : DRun := (stab ahead (a.1 ++ b.1), filt (keysL (stab ahead (a.1 ++ b.1))), ())
def merge (s : y3q) (i : Nat) : y3q := (s.1, s.2.1.take i ++ [runOf (s.2.1.getD i ZRun) (s.2.1.getD (i + 1) ZRun)] ++ s.2.1.drop (i + 2), s.2.2.1, ())
theorem sml_stab {a b : List y0q} (ha : SmL a) (hb : SmL b) (h : a.length + b.length ≤ 1048576) : SmL (stab ahead (a ++ b)) := by
 refine ⟨by rw [y26q, List.length_append]; exact h, fun v hv => ?_⟩
 rcases List.mem_append.1 ((y39q _).mem_iff.1 hv) with h | h
 ·exact ha.2 v h
 ·exact hb.2 v h
theorem two_le (s : y3q) {i : Nat} (hi : i + 1 < s.2.1.length) : (s.2.1.getD i ZRun).1.length + (s.2.1.getD (i + 1) ZRun).1.length ≤ (rawAll s).length := by
 have h : (rawAll s).length = s.1.length + (s.2.1.flatMap fun r => r.1).length := by simp [rawAll]
 have h2 : (s.2.1.flatMap fun r => r.1).length = ((s.2.1.take i ++ s.2.1.getD i ZRun :: s.2.1.getD (i + 1) ZRun :: s.2.1.drop (i + 2)).flatMap fun r => r.1).length := by rw [← runs_split hi]
 rw [List.flatMap_append, List.flatMap_cons, List.flatMap_cons] at h2
 simp only [List.length_append] at h2
 omega
theorem implMerged (a b : DRun) (ha : SmL a.1) (hb : SmL b.1) (h : a.1.length + b.1.length ≤ 1048576) : F_u57f a b = some (runOf a b) := by
 unfold F_u57f
 have hs := sml_stab ha hb h
 rw [y2q (by unfold capN; omega), y2q (by unfold capN; omega), implSorted _ (by rw [List.length_append]; omega), y6q, implKeys _ hs, y6q, implFilter _ (keys_of hs)]
 rfl
theorem implJoin (s : y3q) (hs : Sm_Store 1048576 s) (i : Nat) (hi : i + 1 < s.2.1.length) (hr : s.2.1.length ≤ 12) (hl : (rawAll s).length ≤ 4000) : F_u58f s (i : Int) = some (merge s i) := by
 have h2 := two_le s hi
 have s1 := sm_run hs i (by omega)
 have s2 := sm_run hs (i + 1) hi
 unfold F_u58f
 have w1 : IntKind.i64.wrap ((i : Int) + 1) = ((i + 1 : Nat) : Int) := y9q (by omega)
 have w2 : IntKind.i64.wrap ((i : Int) + 2) = ((i + 2 : Nat) : Int) := by rw [y17q (by omega) (by omega)]; omega
 have hm := implMerged (s.2.1.getD i ZRun) (s.2.1.getD (i + 1) ZRun) s1 s2 (by omega)
 simp only [w1, w2, Int.toNat_natCast]
 rw [y2q (by omega), y2q (by omega), y2q (by omega), y2q (by omega)]
 rw [show F_u57f (s.2.1.getD i ZoRun) (s.2.1.getD (i + 1) ZoRun) = some (runOf (s.2.1.getD i ZRun) (s.2.1.getD (i + 1) ZRun)) from hm, y6q]
 simp only [Nat.zero_add, Nat.sub_zero, List.drop_zero, List.take_length, List.nil_append, List.length_cons, List.length_nil, List.length_take]
 rw [y2q (by omega), y2q (by omega), y2q (by unfold capN; omega), y2q (by unfold capN; omega), y2q (by omega), y2q (by omega), y2q (by omega), y2q (by unfold capN; omega)]
 have hmx := mixL_take O150 (s.2.1 : List O150.den) i
 unfold merge
 rw [show mixL (O82.pair (T9.pair Ty.unit)) (List.take i s.2.1) s.2.1 = List.take i s.2.1 from hmx]
theorem specMerge (s : y3q) (hs : Sm_Store 1048576 s) (i : Nat) (hi : i + 1 < s.2.1.length) (hr : s.2.1.length ≤ 12) (hl : (rawAll s).length ≤ 4000) (h0 : Strict (s.2.1.getD i ZRun).1) (h1 : Strict (s.2.1.getD (i + 1) ZRun).1) (hS : Strict (stab ahead (rawAll s))) : F_u25f s (i : Int) = some (merge s i) := by
 have h2 := two_le s hi
 have s1 := sm_run hs i (by omega)
 have s2 := sm_run hs (i + 1) hi
 unfold F_u25f F_u24f
 have w1 : IntKind.i64.wrap ((i : Int) + 1) = ((i + 1 : Nat) : Int) := y9q (by omega)
 have w2 : IntKind.i64.wrap ((i : Int) + 2) = ((i + 2 : Nat) : Int) := by rw [y17q (by omega) (by omega)]; omega
 simp only [w1, w2, Int.toNat_natCast]
 rw [y2q (by omega), y2q (by omega), y2q (by simp only [List.length_take]; unfold capN; omega), y2q (by omega), y2q (by omega), y2q (by omega), y2q (by omega)]
 rw [specJoin _ _ (by omega), y6q, joinBoth _ _ h0 h1 (runs_apart hS hi), specKeys _ (sml_stab s1 s2 (by omega))]
 simp only [y6q, List.nil_append]
 rw [y2q (by simp only [List.length_take, List.length_cons, List.length_nil]; unfold capN; omega), y2q (by omega), y2q (by omega), y2q (by simp only [List.length_append, List.length_take, List.length_drop, List.length_cons, List.length_nil]; unfold capN; omega)]
 rfl
theorem sm_merge (s : y3q) (hs : Sm_Store 1048576 s) (i : Nat) (hi : i + 1 < s.2.1.length) (hr : s.2.1.length ≤ 12) (hl : (rawAll s).length ≤ 4000) : Sm_Store 1048576 (merge s i) := by
 have h2 := two_le s hi
 have s1 := sm_run hs i (by omega)
 have s2 := sm_run hs (i + 1) hi
 refine ⟨hs.1, ⟨?_, fun r hr => ?_⟩, hs.2.2⟩
 ·show (s.2.1.take i ++ [runOf (s.2.1.getD i ZRun) (s.2.1.getD (i + 1) ZRun)] ++ s.2.1.drop (i + 2)).length ≤ _
  simp only [List.length_append, List.length_take, List.length_drop, List.length_cons, List.length_nil]; omega
 ·have hr : r ∈ s.2.1.take i ++ [runOf (s.2.1.getD i ZRun) (s.2.1.getD (i + 1) ZRun)] ++ s.2.1.drop (i + 2) := hr
  rcases List.mem_append.1 hr with hr | hr
  ·rcases List.mem_append.1 hr with hr | hr
   ·exact hs.2.1.2 r (List.mem_of_mem_take hr)
   ·rw [List.mem_singleton.1 hr]
    exact ⟨sml_stab s1 s2 (by omega), filt_len _⟩
  ·exact hs.2.1.2 r (List.mem_of_mem_drop hr)
def flushed (s : y3q) : y3q := ([], [(s.1, filt (keysL s.1), ())] ++ s.2.1, s.2.2.1, ())
def room (s : y3q) : y3q := if s.2.1.length ≥ 12 then merge s (s.2.1.length - 2) else s
theorem room_mem (s : y3q) : (room s).1 = s.1 := by unfold room; split <;> rfl
theorem flush_same (s : y3q) (hs : Sm_Store 1048576 s) : ∃ r, F_u26f s = some r ∧ F_u59f s = some r ∧ Sm_Store 1048576 r.1 := by
 have hz : Sm_Store 1048576 ([], [], (0, 0, ()), ()) := ⟨⟨Nat.zero_le _, fun y hy => by cases hy⟩, ⟨Nat.zero_le _, fun y hy => by cases hy⟩, by unfold Sm_Time Rng; decide⟩
 unfold F_u26f F_u59f
 by_cases hok : OKP s
 case neg => rw [(specOK s hs).2 hok, (implOK s hs).2 hok]; exact ⟨_, rfl, rfl, hz⟩
 rw [(specOK s hs).1 hok, (implOK s hs).1 hok]
 show ∃ r, bnd _ _ = some r ∧ bnd _ _ = some r ∧ _
 obtain ⟨o1, o2, o3, o4, o5, o6⟩ := hok
 have hr : ∀ r ∈ s.2.1, r.1.length ≤ 1048576 := fun r hr => (hs.2.1.2 r hr).1.1
 rw [specCopy s hs.1.1 hs.2.1.1 hr, implCopied s hs.1.1 hs.2.1.1 hr]
 simp only [y6q, y57q]
 by_cases h1 : (s.1.length : Int) = 0
 ·rw [y2q h1, y2q h1]; exact ⟨_, rfl, rfl, hs⟩
 rw [y11q h1, y11q h1]
 have hsp : (br (decide ((s.2.1.length : Int) ≥ 12)) (bnd (F_u25f s (IntKind.i64.wrap ((s.2.1.length : Int) - 2))) fun y3 => some ((([], [], (0, 0, ()), ()) : T86.den), y3.1, y3.2.1, y3.2.2.1, ())) (some ((([], [], (0, 0, ()), ()) : T86.den), s.1, s.2.1, s.2.2.1, ()))) = some ((([], [], (0, 0, ()), ()) : T86.den), room s) := by
  unfold room
  by_cases h2 : (s.2.1.length : Int) ≥ 12
  ·have hw : IntKind.i64.wrap ((s.2.1.length : Int) - 2) = ((s.2.1.length - 2 : Nat) : Int) := by rw [y17q (by omega) (by omega)]; omega
   rw [y2q h2, hw, specMerge s hs (s.2.1.length - 2) (by omega) o2 o3 (y35q (o5 _ (by omega)).2.1) (y35q (o5 _ (by omega)).2.1) o6, if_pos (by omega)]
   rfl
  ·rw [y11q h2, if_neg (by omega)]
 have him : (br (decide ((s.2.1.length : Int) ≥ 12)) (bnd (F_u58f s (IntKind.i64.wrap ((s.2.1.length : Int) - 2))) fun y3 => some (y3, (([], [], (0, 0, ()), ()) : T86.den))) (some (s, (([], [], (0, 0, ()), ()) : T86.den)))) = some (room s, (([], [], (0, 0, ()), ()) : T86.den)) := by
  unfold room
  by_cases h2 : (s.2.1.length : Int) ≥ 12
  ·have hw : IntKind.i64.wrap ((s.2.1.length : Int) - 2) = ((s.2.1.length - 2 : Nat) : Int) := by rw [y17q (by omega) (by omega)]; omega
   rw [y2q h2, hw, implJoin s hs (s.2.1.length - 2) (by omega) o2 o3, if_pos (by omega)]
   rfl
  ·rw [y11q h2, if_neg (by omega)]
 have hm : SmL s.1 := ⟨hs.1.1, hs.1.2⟩
 have hrl : (room s).2.1.length ≤ 12 := by
  unfold room
  split
  ·show (s.2.1.take (s.2.1.length - 2) ++ [runOf (s.2.1.getD (s.2.1.length - 2) ZRun) (s.2.1.getD (s.2.1.length - 2 + 1) ZRun)] ++ s.2.1.drop (s.2.1.length - 2 + 2)).length ≤ _
   simp only [List.length_append, List.length_take, List.length_drop, List.length_cons, List.length_nil]; omega
  ·exact o2
 have hrs : Sm_Store 1048576 (room s) := by
  unfold room
  split
  ·exact sm_merge s hs _ (by omega) o2 o3
  ·exact hs
 refine ⟨(flushed (room s), 0), ?_, ?_, ?_⟩
 ·refine (congrArg (fun m => bnd m _) hsp).trans ?_
  show bnd (F_u24f (room s).1) _ = _
  unfold F_u24f
  rw [room_mem, specKeys _ hm]
  show br _ _ _ = _
  rw [y2q (by simp only [List.length_cons, List.length_nil]; unfold capN; omega)]
  unfold flushed
  rw [room_mem]
 ·refine (congrArg (fun m => bnd m _) him).trans ?_
  show bnd (F_u45f (room s).1) _ = _
  rw [room_mem, implKeys _ hm, y6q, implFilter _ (keys_of hm)]
  show br _ _ _ = _
  rw [y2q (by simp only [List.length_cons, List.length_nil]; unfold capN; omega)]
  unfold flushed
  rw [room_mem]
 ·refine ⟨⟨Nat.zero_le _, fun y hy => by cases hy⟩, ⟨?_, fun y hy => ?_⟩, hrs.2.2⟩
  ·show ([((room s).1, filt (keysL (room s).1), ())] ++ (room s).2.1).length ≤ _
   simp only [List.length_append, List.length_cons, List.length_nil]; omega
  ·have hy : y ∈ [((room s).1, filt (keysL (room s).1), ())] ++ (room s).2.1 := hy
   rcases List.mem_append.1 hy with h | h
   ·rw [List.mem_singleton.1 h, room_mem]; exact ⟨hm, filt_len _⟩
   ·exact hrs.2.1.2 y h
theorem compact_same (s : y3q) (hs : Sm_Store 1048576 s) (b : Int) : ∃ r, F_u27f s b = some r ∧ F_u60f s b = some r ∧ Sm_Store 1048576 r.1 := by
 have hz : Sm_Store 1048576 ([], [], (0, 0, ()), ()) := ⟨⟨Nat.zero_le _, fun y hy => by cases hy⟩, ⟨Nat.zero_le _, fun y hy => by cases hy⟩, by unfold Sm_Time Rng; decide⟩
 unfold F_u27f F_u60f
 by_cases hok : OKP s
 case neg => rw [(specOK s hs).2 hok, (implOK s hs).2 hok]; exact ⟨_, rfl, rfl, hz⟩
 rw [(specOK s hs).1 hok, (implOK s hs).1 hok]
 show ∃ r, br _ _ _ = some r ∧ br _ _ _ = some r ∧ _
 by_cases h1 : b < 0
 ·rw [y2q h1, y2q h1]; exact ⟨_, rfl, rfl, hz⟩
 rw [y11q h1, y11q h1]
 obtain ⟨o1, o2, o3, o4, o5, o6⟩ := hok
 have hw : IntKind.i64.wrap ((s.2.1.length : Int) - 2) = (s.2.1.length : Int) - 2 := y17q (by omega) (by omega)
 rw [hw]
 by_cases h2 : b > (s.2.1.length : Int) - 2
 ·rw [y2q h2, y2q h2]; exact ⟨_, rfl, rfl, hz⟩
 rw [y11q h2, y11q h2]
 obtain ⟨i, rfl⟩ : ∃ i : Nat, b = (i : Int) := ⟨b.toNat, by omega⟩
 have hr : ∀ r ∈ s.2.1, r.1.length ≤ 1048576 := fun r hr => (hs.2.1.2 r hr).1.1
 rw [specCopy s hs.1.1 hs.2.1.1 hr, implCopied s hs.1.1 hs.2.1.1 hr]
 simp only [y6q]
 rw [specMerge s hs i (by omega) o2 o3 (y35q (o5 i (by omega)).2.1) (y35q (o5 (i + 1) (by omega)).2.1) o6, implJoin s hs i (by omega) o2 o3]
 exact ⟨_, rfl, rfl, sm_merge s hs i (by omega) o2 o3⟩
theorem putBoth (l : List y0q) (b : y0q) (h : Strict l) (hb : ∀ v ∈ l, ¬ Tie v b) : mrg ahead [b] l = stab ahead (l ++ [b]) := by
 have hp : (l ++ [b]).Pairwise fun a b => ¬ Tie a b := List.pairwise_append.2 ⟨(y91q (y128q h)).1 h, List.pairwise_singleton _ _, fun v hv w hw => by
  rw [List.mem_singleton.1 hw]; exact hb v hv⟩
 have p1 : (mrg ahead [b] l).Perm (l ++ [b]) := (mrg_perm [b] l).trans List.perm_append_comm
 have p2 := y39q (lt := ahead) (l ++ [b])
 have s1 : Strict (mrg ahead [b] l) := (y91q (mrg_srt y32q (List.pairwise_singleton _ _) (y128q h))).2 ((p1.pairwise_iff fun {a b} => tie_symm).2 hp)
 have s2 : Strict (stab ahead (l ++ [b])) := (y91q (y103q y32q _)).2 ((p2.pairwise_iff fun {a b} => tie_symm).2 hp)
 exact List.Perm.eq_of_pairwise (fun a b _ _ h1 h2 => absurd h2 fun h2 => by
  have := y32q.asym _ _ (y28q.2 h1); rw [y28q.2 h2] at this; cases this) s1 s2 (p1.trans p2.symm)
def Free (l : List y0q) (b : y0q) : Prop := ∀ j, j < l.length → ¬ Tie (l.getD j y1q) b
theorem specHasL (l : List y0q) (b : y0q) (hl : l.length ≤ 1048576) : Ans (F_u15f_l0 b.1 b.2.1 l 0) (some (.inl ())) (some (.inr true)) (Free l b) := by
 unfold F_u15f_l0
 refine ans_loop (fun j => (b.1, b.2.1, l, ((j : Nat) : Int))) _ _ (fun j C hj hb => ?_) (fun C _ => ?_) (by omega)
 ·unfold B_u15f_l0
  simp (disch := omega) only [y9q, Int.toNat_natCast, eqI_dec, andB_true, andB_dec, y57q]
  refine y41q (y19q (by omega) (y19q (by omega) (y19q (by omega) (ans_br (fun _ => y19q (by omega) (y19q (by omega) (y55q fun _ => ans_yes))) fun _ => ans_yes)))) ?_
  rw [tie_iff]
  simp only [and_true, not_and]
  grind
 ·unfold B_u15f_l0
  exact y11q (Int.lt_irrefl _) _ _
theorem implHasL (s : y3q) (b : y0q) (z : y3q) (l : List y0q) (hl : l.length ≤ 1048576) : Ans (F_u52f_l0 s b z l l (l.length : Int) 0) (some (.inl (s, b, z, l))) (some (.inr (([], [], (0, 0, ()), ()), 8))) (Free l b) := by
 unfold F_u52f_l0
 refine ans_loop (fun j => (s, b, z, l, l, ((l.length : Nat) : Int), ((j : Nat) : Int))) _ _ (fun j C hj hb => ?_) (fun C _ => ?_) (by omega)
 ·unfold B_u52f_l0
  simp (disch := omega) only [y9q, Int.toNat_natCast, eqI_dec, andB_true, andB_dec, y57q]
  refine y41q (y19q (by omega) (y19q (by omega) (y19q (by omega) (ans_br (fun _ => y55q fun _ => ans_yes) fun _ => ans_yes)))) ?_
  rw [tie_iff]
  simp only [and_true, not_and]
  grind
 ·unfold B_u52f_l0
  exact y11q (Int.lt_irrefl _) _ _
theorem put_same (s : y3q) (hs : Sm_Store 1048576 s) (b : y0q) (hb : Sm_Version 1048576 b) : ∃ r, F_u19f s b = some r ∧ F_u52f s b = some r ∧ Sm_Store 1048576 r.1 := by
 have hz : Sm_Store 1048576 ([], [], (0, 0, ()), ()) := ⟨⟨Nat.zero_le _, fun y hy => by cases hy⟩, ⟨Nat.zero_le _, fun y hy => by cases hy⟩, by unfold Sm_Time Rng; decide⟩
 unfold F_u19f F_u52f
 by_cases hok : OKP s
 case neg => rw [(specOK s hs).2 hok, (implOK s hs).2 hok]; exact ⟨_, rfl, rfl, hz⟩
 rw [(specOK s hs).1 hok, (implOK s hs).1 hok]
 show ∃ r, bnd _ _ = some r ∧ bnd _ _ = some r ∧ _
 by_cases hv : VerP b
 case neg => rw [(specVer b).2 hv, (implVer b).2 hv]; exact ⟨_, rfl, rfl, hz⟩
 rw [(specVer b).1 hv, (implVer b).1 hv]
 show ∃ r, bnd _ _ = some r ∧ bnd _ _ = some r ∧ _
 rw [specTime, implTime]
 show ∃ r, br _ _ _ = some r ∧ br _ _ _ = some r ∧ _
 by_cases ht : tcmp b.2.1 s.2.2.1 ≤ 0
 ·rw [y2q ht, y2q ht]; exact ⟨_, rfl, rfl, hz⟩
 rw [y11q ht, y11q ht]
 obtain ⟨o1, o2, o3, o4, o5, o6⟩ := hok
 obtain ⟨t1, t2⟩ := okp_srt o4 o5
 have hall : y73q s = stab ahead (rawAll s) := both_all s ((y101q s t1 t2).2 o6) o6
 have hlen : (stab ahead (rawAll s)).length = (rawAll s).length := y26q _
 have hS := specAll s (by omega) (by omega)
 rw [hall] at hS
 rw [implAll s (by omega) (by omega)]
 unfold F_u15f F_u16f F_u18f
 rw [hS]
 simp only [y6q]
 by_cases hf : Free (stab ahead (rawAll s)) b
 case neg =>
  rw [(specHasL _ b (by omega)).2 hf, (implHasL s b _ _ (by omega)).2 hf]; exact ⟨_, rfl, rfl, hz⟩
 rw [(specHasL _ b (by omega)).1 hf, (implHasL s b _ _ (by omega)).1 hf]
 show ∃ r, br _ _ _ = some r ∧ br _ _ _ = some r ∧ _
 by_cases hc : ((stab ahead (rawAll s)).length : Int) ≥ 4000
 ·rw [y2q hc, y2q hc]; exact ⟨_, rfl, rfl, hz⟩
 rw [y11q hc, y11q hc]
 have h0 : s.1.length ≤ (rawAll s).length := by simp [rawAll]
 have hr : ∀ r ∈ s.2.1, r.1.length ≤ 1048576 := fun r hr => (hs.2.1.2 r hr).1.1
 rw [specCopy s hs.1.1 hs.2.1.1 hr, implCopied s hs.1.1 hs.2.1.1 hr]
 simp only [y6q]
 rw [specJoin s.1 [b] (by simp only [List.length_cons, List.length_nil]; omega), y2q (by simp only [List.length_cons, List.length_nil]; unfold capN; omega), implSorted _ (by simp only [List.length_append, List.length_cons, List.length_nil]; omega)]
 rw [putBoth s.1 b (y35q o4) fun v hv => by
  have : v ∈ stab ahead (rawAll s) := (y39q _).mem_iff.2 (List.mem_append.2 (.inl hv))
  obtain ⟨j, hj, e⟩ := List.getElem_of_mem this
  have := hf j hj
  rw [y33q hj, e] at this; exact this]
 refine ⟨_, rfl, rfl, ⟨⟨?_, fun y hy => ?_⟩, hs.2.1, hs.2.2⟩⟩
 ·show (stab ahead (s.1 ++ [b])).length ≤ _
  rw [y26q]; simp only [List.length_append, List.length_cons, List.length_nil]; omega
 ·have hy : y ∈ stab ahead (s.1 ++ [b]) := hy
  rcases List.mem_append.1 ((y39q _).mem_iff.1 hy) with h | h
  ·exact hs.1.2 y h
  ·rw [List.mem_singleton.1 h]; exact hb
end Go.Ev.T1
