/- Two runs made one; a store flushed, both ways. -/
import Derived.Test.YticlnmiakaelkaaFlQ8a
set_option linter.unusedSimpArgs false
set_option linter.unusedVariables false
namespace Go.Ev.T1
open Go Go.Proofs
/-- two runs as one -/
def runOf (a b : DRun) : DRun := (stab ahead (a.1 ++ b.1), filt (keysL (stab ahead (a.1 ++ b.1))), ())
def merge (s : DStore) (i : Nat) : DStore := (s.1, s.2.1.take i ++ [runOf (s.2.1.getD i ZRun) (s.2.1.getD (i + 1) ZRun)] ++ s.2.1.drop (i + 2), s.2.2.1, ())
theorem sml_stab {a b : List DVersion} (ha : SmL a) (hb : SmL b) (h : a.length + b.length ≤ 1048576) : SmL (stab ahead (a ++ b)) := by
  refine ⟨by rw [stab_length, List.length_append]; exact h, fun v hv => ?_⟩
  rcases List.mem_append.1 ((stab_perm _).mem_iff.1 hv) with h | h
  · exact ha.2 v h
  · exact hb.2 v h
theorem two_le (s : DStore) {i : Nat} (hi : i + 1 < s.2.1.length) : (s.2.1.getD i ZRun).1.length + (s.2.1.getD (i + 1) ZRun).1.length ≤ (rawAll s).length := by
  have h : (rawAll s).length = s.1.length + (s.2.1.flatMap fun r => r.1).length := by simp [rawAll]
  have h2 : (s.2.1.flatMap fun r => r.1).length = ((s.2.1.take i ++ s.2.1.getD i ZRun :: s.2.1.getD (i + 1) ZRun :: s.2.1.drop (i + 2)).flatMap fun r => r.1).length := by rw [← runs_split hi]
  rw [List.flatMap_append, List.flatMap_cons, List.flatMap_cons] at h2
  simp only [List.length_append] at h2
  omega
theorem implMerged (a b : DRun) (ha : SmL a.1) (hb : SmL b.1) (h : a.1.length + b.1.length ≤ 1048576) : F_impl_merged a b = some (runOf a b) := by
  unfold F_impl_merged
  have hs := sml_stab ha hb h
  rw [br_pos (by unfold capN; omega), br_pos (by unfold capN; omega), implSorted _ (by rw [List.length_append]; omega), bnd_some', implKeys _ hs, bnd_some', implFilter _ (keys_of hs)]
  rfl
theorem implJoin (s : DStore) (hs : Sm_Store 1048576 s) (i : Nat) (hi : i + 1 < s.2.1.length) (hr : s.2.1.length ≤ 12) (hl : (rawAll s).length ≤ 4000) : F_impl_joinRuns s (i : Int) = some (merge s i) := by
  have h2 := two_le s hi
  have s1 := sm_run hs i (by omega)
  have s2 := sm_run hs (i + 1) hi
  unfold F_impl_joinRuns
  have w1 : IntKind.i64.wrap ((i : Int) + 1) = ((i + 1 : Nat) : Int) := wrap_succ (by omega)
  have w2 : IntKind.i64.wrap ((i : Int) + 2) = ((i + 2 : Nat) : Int) := by rw [wrap_eq (by omega) (by omega)]; omega
  have hm := implMerged (s.2.1.getD i ZRun) (s.2.1.getD (i + 1) ZRun) s1 s2 (by omega)
  simp only [w1, w2, Int.toNat_natCast]
  rw [br_pos (by omega), br_pos (by omega), br_pos (by omega), br_pos (by omega)]
  rw [show F_impl_merged (s.2.1.getD i ZoRun) (s.2.1.getD (i + 1) ZoRun) = some (runOf (s.2.1.getD i ZRun) (s.2.1.getD (i + 1) ZRun)) from hm, bnd_some']
  simp only [Nat.zero_add, Nat.sub_zero, List.drop_zero, List.take_length, List.nil_append, List.length_cons, List.length_nil, List.length_take]
  rw [br_pos (by omega), br_pos (by omega), br_pos (by unfold capN; omega), br_pos (by unfold capN; omega), br_pos (by omega), br_pos (by omega), br_pos (by omega), br_pos (by unfold capN; omega)]
  have hmx := mixL_take O106 (s.2.1 : List O106.den) i
  unfold merge
  rw [show mixL (O35.pair (T9.pair Ty.unit)) (List.take i s.2.1) s.2.1 = List.take i s.2.1 from hmx]
theorem specMerge (s : DStore) (hs : Sm_Store 1048576 s) (i : Nat) (hi : i + 1 < s.2.1.length) (hr : s.2.1.length ≤ 12) (hl : (rawAll s).length ≤ 4000) (h0 : Strict (s.2.1.getD i ZRun).1) (h1 : Strict (s.2.1.getD (i + 1) ZRun).1) (hS : Strict (stab ahead (rawAll s))) : F_spec_l03Merge s (i : Int) = some (merge s i) := by
  have h2 := two_le s hi
  have s1 := sm_run hs i (by omega)
  have s2 := sm_run hs (i + 1) hi
  unfold F_spec_l03Merge F_spec_l03RunOf
  have w1 : IntKind.i64.wrap ((i : Int) + 1) = ((i + 1 : Nat) : Int) := wrap_succ (by omega)
  have w2 : IntKind.i64.wrap ((i : Int) + 2) = ((i + 2 : Nat) : Int) := by rw [wrap_eq (by omega) (by omega)]; omega
  simp only [w1, w2, Int.toNat_natCast]
  rw [br_pos (by omega), br_pos (by omega), br_pos (by simp only [List.length_take]; unfold capN; omega), br_pos (by omega), br_pos (by omega), br_pos (by omega), br_pos (by omega)]
  rw [specJoin _ _ (by omega), bnd_some', joinBoth _ _ h0 h1 (runs_apart hS hi), specKeys _ (sml_stab s1 s2 (by omega))]
  simp only [bnd_some', List.nil_append]
  rw [br_pos (by simp only [List.length_take, List.length_cons, List.length_nil]; unfold capN; omega), br_pos (by omega), br_pos (by omega), br_pos (by simp only [List.length_append, List.length_take, List.length_drop, List.length_cons, List.length_nil]; unfold capN; omega)]
  rfl
theorem sm_merge (s : DStore) (hs : Sm_Store 1048576 s) (i : Nat) (hi : i + 1 < s.2.1.length) (hr : s.2.1.length ≤ 12) (hl : (rawAll s).length ≤ 4000) : Sm_Store 1048576 (merge s i) := by
  have h2 := two_le s hi
  have s1 := sm_run hs i (by omega)
  have s2 := sm_run hs (i + 1) hi
  refine ⟨hs.1, ⟨?_, fun r hr => ?_⟩, hs.2.2⟩
  · show (s.2.1.take i ++ [runOf (s.2.1.getD i ZRun) (s.2.1.getD (i + 1) ZRun)] ++ s.2.1.drop (i + 2)).length ≤ _
    simp only [List.length_append, List.length_take, List.length_drop, List.length_cons, List.length_nil]; omega
  · have hr : r ∈ s.2.1.take i ++ [runOf (s.2.1.getD i ZRun) (s.2.1.getD (i + 1) ZRun)] ++ s.2.1.drop (i + 2) := hr
    rcases List.mem_append.1 hr with hr | hr
    · rcases List.mem_append.1 hr with hr | hr
      · exact hs.2.1.2 r (List.mem_of_mem_take hr)
      · rw [List.mem_singleton.1 hr]
        exact ⟨sml_stab s1 s2 (by omega), filt_len _⟩
    · exact hs.2.1.2 r (List.mem_of_mem_drop hr)
def flushed (s : DStore) : DStore := ([], [(s.1, filt (keysL s.1), ())] ++ s.2.1, s.2.2.1, ())
def room (s : DStore) : DStore := if s.2.1.length ≥ 12 then merge s (s.2.1.length - 2) else s
theorem room_mem (s : DStore) : (room s).1 = s.1 := by unfold room; split <;> rfl
theorem flush_same (s : DStore) (hs : Sm_Store 1048576 s) : ∃ r, F_spec_StoreFlush s = some r ∧ F_impl_StoreFlush s = some r ∧ Sm_Store 1048576 r.1 := by
  have hz : Sm_Store 1048576 ([], [], (0, 0, ()), ()) := ⟨⟨Nat.zero_le _, fun y hy => by cases hy⟩, ⟨Nat.zero_le _, fun y hy => by cases hy⟩, by unfold Sm_Time Rng; decide⟩
  unfold F_spec_StoreFlush F_impl_StoreFlush
  by_cases hok : OKP s
  case neg => rw [(specOK s hs).2 hok, (implOK s hs).2 hok]; exact ⟨_, rfl, rfl, hz⟩
  rw [(specOK s hs).1 hok, (implOK s hs).1 hok]
  show ∃ r, bnd _ _ = some r ∧ bnd _ _ = some r ∧ _
  obtain ⟨o1, o2, o3, o4, o5, o6⟩ := hok
  have hr : ∀ r ∈ s.2.1, r.1.length ≤ 1048576 := fun r hr => (hs.2.1.2 r hr).1.1
  rw [specCopy s hs.1.1 hs.2.1.1 hr, implCopied s hs.1.1 hs.2.1.1 hr]
  simp only [bnd_some', beq_dec]
  by_cases h1 : (s.1.length : Int) = 0
  · rw [br_pos h1, br_pos h1]; exact ⟨_, rfl, rfl, hs⟩
  rw [br_neg h1, br_neg h1]
  have hsp : (br (decide ((s.2.1.length : Int) ≥ 12)) (bnd (F_spec_l03Merge s (IntKind.i64.wrap ((s.2.1.length : Int) - 2))) fun y3 => some ((([], [], (0, 0, ()), ()) : T60.den), y3.1, y3.2.1, y3.2.2.1, ())) (some ((([], [], (0, 0, ()), ()) : T60.den), s.1, s.2.1, s.2.2.1, ()))) = some ((([], [], (0, 0, ()), ()) : T60.den), room s) := by
    unfold room
    by_cases h2 : (s.2.1.length : Int) ≥ 12
    · have hw : IntKind.i64.wrap ((s.2.1.length : Int) - 2) = ((s.2.1.length - 2 : Nat) : Int) := by rw [wrap_eq (by omega) (by omega)]; omega
      rw [br_pos h2, hw, specMerge s hs (s.2.1.length - 2) (by omega) o2 o3 (listP_strict (o5 _ (by omega)).2.1) (listP_strict (o5 _ (by omega)).2.1) o6, if_pos (by omega)]
      rfl
    · rw [br_neg h2, if_neg (by omega)]
  have him : (br (decide ((s.2.1.length : Int) ≥ 12)) (bnd (F_impl_joinRuns s (IntKind.i64.wrap ((s.2.1.length : Int) - 2))) fun y3 => some (y3, (([], [], (0, 0, ()), ()) : T60.den))) (some (s, (([], [], (0, 0, ()), ()) : T60.den)))) = some (room s, (([], [], (0, 0, ()), ()) : T60.den)) := by
    unfold room
    by_cases h2 : (s.2.1.length : Int) ≥ 12
    · have hw : IntKind.i64.wrap ((s.2.1.length : Int) - 2) = ((s.2.1.length - 2 : Nat) : Int) := by rw [wrap_eq (by omega) (by omega)]; omega
      rw [br_pos h2, hw, implJoin s hs (s.2.1.length - 2) (by omega) o2 o3, if_pos (by omega)]
      rfl
    · rw [br_neg h2, if_neg (by omega)]
  have hm : SmL s.1 := ⟨hs.1.1, hs.1.2⟩
  have hrl : (room s).2.1.length ≤ 12 := by
    unfold room
    split
    · show (s.2.1.take (s.2.1.length - 2) ++ [runOf (s.2.1.getD (s.2.1.length - 2) ZRun) (s.2.1.getD (s.2.1.length - 2 + 1) ZRun)] ++ s.2.1.drop (s.2.1.length - 2 + 2)).length ≤ _
      simp only [List.length_append, List.length_take, List.length_drop, List.length_cons, List.length_nil]; omega
    · exact o2
  have hrs : Sm_Store 1048576 (room s) := by
    unfold room
    split
    · exact sm_merge s hs _ (by omega) o2 o3
    · exact hs
  refine ⟨(flushed (room s), 0), ?_, ?_, ?_⟩
  · refine (congrArg (fun m => bnd m _) hsp).trans ?_
    show bnd (F_spec_l03RunOf (room s).1) _ = _
    unfold F_spec_l03RunOf
    rw [room_mem, specKeys _ hm]
    show br _ _ _ = _
    rw [br_pos (by simp only [List.length_cons, List.length_nil]; unfold capN; omega)]
    unfold flushed
    rw [room_mem]
  · refine (congrArg (fun m => bnd m _) him).trans ?_
    show bnd (F_impl_keysOf (room s).1) _ = _
    rw [room_mem, implKeys _ hm, bnd_some', implFilter _ (keys_of hm)]
    show br _ _ _ = _
    rw [br_pos (by simp only [List.length_cons, List.length_nil]; unfold capN; omega)]
    unfold flushed
    rw [room_mem]
  · refine ⟨⟨Nat.zero_le _, fun y hy => by cases hy⟩, ⟨?_, fun y hy => ?_⟩, hrs.2.2⟩
    · show ([((room s).1, filt (keysL (room s).1), ())] ++ (room s).2.1).length ≤ _
      simp only [List.length_append, List.length_cons, List.length_nil]; omega
    · have hy : y ∈ [((room s).1, filt (keysL (room s).1), ())] ++ (room s).2.1 := hy
      rcases List.mem_append.1 hy with h | h
      · rw [List.mem_singleton.1 h, room_mem]; exact ⟨hm, filt_len _⟩
      · exact hrs.2.1.2 y h
end Go.Ev.T1
