/- A collection, both ways. -/
import Derived.Test.YticlnmiakaelkaaCoQ8
set_option linter.unusedSimpArgs false
set_option linter.unusedVariables false
namespace Go.Ev.T1
open Go Go.Proofs
theorem filter_take {α : Type} {l : List α} {i : Nat} {z : α} (hi : i < l.length) (P : α → Bool) : (l.take (i + 1)).filter P = (l.take i).filter P ++ if P (l.getD i z) then [l.getD i z] else [] := by
  rw [← take_snoc (z := z) hi, List.filter_append]
  congr 1
  generalize l.getD i z = v
  cases h : P v <;> simp [h]
theorem implKeep (l : List DVersion) (m : List (Dka × Bool)) (hl : l.length ≤ 1048576) : F_impl_StoreCollect_1 l m = some (l.filter fun v => !(mgetD T199 T4 (kOf v) m)) := by
  have key : F_impl_StoreCollect_1_l0 m [] l (l.length : Int) 0 = some (l.filter fun v => !(mgetD T199 T4 (kOf v) m)) := by
    unfold F_impl_StoreCollect_1_l0
    have := loop_run (B := B_impl_StoreCollect_1_l0) (fun i => (m, (l.take i).filter (fun v => !(mgetD T199 T4 (kOf v) m)), l, (l.length : Int), ((i : Nat) : Int))) l.length (some (l.filter fun v => !(mgetD T199 T4 (kOf v) m))) (fun i C hi => ?_) (fun C => ?_) (((l.length : Nat) : Int).toNat + 1) 0 (Nat.zero_le _) (by simp)
    · simpa using this
    · unfold B_impl_StoreCollect_1_l0
      simp (disch := omega) only [wrap_succ, Int.toNat_natCast]
      have hle : ((l.take i).filter (fun v => !(mgetD T199 T4 (kOf v) m))).length ≤ i := Nat.le_trans (List.length_filter_le _ _) (by rw [List.length_take]; omega)
      rw [br_pos (by omega), br_pos (by omega), br_pos (by omega), bnd_some', filter_take (z := ZVersion) hi]
      show br (!(mgetD T199 T4 (kOf (l.getD i ZVersion)) m)) _ _ = _
      cases hg : mgetD T199 T4 (kOf (l.getD i ZVersion)) m with
      | true => simp only [Bool.not_true, brF, Bool.false_eq_true, if_false, List.append_nil]
      | false =>
        simp only [Bool.not_false, brT, if_true]
        rw [br_pos (by simp only [List.length_cons, List.length_nil]; unfold capN; omega)]
    · unfold B_impl_StoreCollect_1_l0
      rw [br_neg (by simp)]
      simp only [List.take_length]
  unfold F_impl_StoreCollect_1
  rw [key]; rfl
/-! ### the specification's way -/
theorem eqVer (g v : DVersion) : andB (eqS g.1 v.1) (andB (andB (eqI g.2.1.1 v.2.1.1) (andB (eqI g.2.1.2.1 v.2.1.2.1) true)) (andB (eqB g.2.2.1 v.2.2.1) (andB (eqS g.2.2.2.1 v.2.2.2.1) true))) = decide (g = v) := by
  show eqT T42 g v = decide (g = v)
  rw [Bool.eq_iff_iff, decide_eq_true_eq]
  exact eqK (k := T42) rfl
theorem ahead_irr (v : DVersion) : ahead v v = false := by
  cases h : ahead v v with
  | false => rfl
  | true => exact absurd h (by rw [ahead_weak.asym _ _ h]; simp)
def posOf (G : List DVersion) (v : DVersion) : Nat := G.findIdx fun g => !ahead g v
theorem specSkip (G l out : List DVersion) (i k : Nat) (hG : G.length ≤ 1048576) (hi : i < l.length) (hk : k ≤ G.length) (hpre : ∀ j (hj : j < G.length), j < k → ahead G[j] (l.getD i ZVersion) = true) :
    F_spec_l03Kept_l2 G l out (k : Int) (i : Int) = some (G, l, out, (posOf G (l.getD i ZVersion) : Int), (i : Int)) := by
  unfold F_spec_l03Kept_l2
  have := idx_rounds (xs := G) (z := ZVersion) (p := fun g => !ahead g (l.getD i ZVersion)) (B := B_spec_l03Kept_l2) (fun j => (G, l, out, (j : Int), (i : Int))) (fun j => (G, l, out, (j : Int), (i : Int))) (G, l, out, (G.length : Int), (i : Int)) (fun j C hj => ?_) (fun C => ?_) (((G.length : Nat) : Int).toNat + 1) k hk (by simp; omega) (fun j hj hjk => by show (!ahead G[j] (l.getD i ZVersion)) = false; rw [hpre j hj hjk]; rfl)
  · rw [this]
    congr 1
    unfold posOf
    split
    · rfl
    · rename_i h
      have h2 := List.findIdx_le_length (p := fun g => !ahead g (l.getD i ZVersion)) (xs := G)
      have : G.findIdx (fun g => !ahead g (l.getD i ZVersion)) = G.length := by omega
      rw [this]
  · unfold B_spec_l03Kept_l2
    simp (disch := omega) only [wrap_succ, Int.toNat_natCast]
    rw [br_pos (by omega), br_pos (by omega), br_pos (by omega), br_pos (by omega), br_pos (by omega), specBefore, bnd_some']
    cases ahead (G.getD j ZVersion) (l.getD i ZVersion) <;> rfl
  · unfold B_spec_l03Kept_l2
    rw [br_neg (by simp)]
theorem mem_pos {G : List DVersion} (hG : Strict G) (v : DVersion) : v ∈ G ↔ ∃ h : posOf G v < G.length, G[posOf G v] = v := by
  constructor
  · intro hv
    obtain ⟨m, hm, he⟩ := List.mem_iff_getElem.1 hv
    have hp : (!ahead G[m] v) = true := by rw [he, ahead_irr]; rfl
    have hle : posOf G v ≤ m := by
      rcases Nat.lt_or_ge m (posOf G v) with h | h
      · have := List.not_of_lt_findIdx (p := fun g => !ahead g v) (xs := G) h
        rw [hp] at this; cases this
      · exact h
    rcases Nat.lt_or_ge (posOf G v) m with h | h
    · have h1 := List.findIdx_getElem (p := fun g => !ahead g v) (xs := G) (w := by unfold posOf at h; omega)
      have h2 : Ahead (G[posOf G v]'(by omega)) G[m] := List.pairwise_iff_getElem.1 hG _ _ (by omega) hm h
      rw [he] at h2
      have h3 := ahead_iff.2 h2
      unfold posOf at h3
      rw [h3] at h1; cases h1
    · have : posOf G v = m := by omega
      exact ⟨by omega, by simp only [this]; exact he⟩
  · rintro ⟨h, e⟩
    rw [← e]; exact List.getElem_mem h
theorem specKept (G l : List DVersion) (hG : G.length ≤ 1048576) (hl : l.length ≤ 1048576) (sG : Strict G) (sl : Strict l) : F_spec_l03Kept G l = some (l.filter fun v => decide (¬ v ∈ G)) := by
  have key : F_spec_l03Kept_l0 G l [] 0 0 = some (l.filter fun v => decide (¬ v ∈ G)) := by
    unfold F_spec_l03Kept_l0
    have := loop_run (B := B_spec_l03Kept_l0) (fun i => (G, l, (l.take i).filter (fun v => decide (¬ v ∈ G)), (((if i = 0 then 0 else posOf G (l.getD (i - 1) ZVersion) : Nat)) : Int), ((i : Nat) : Int))) l.length (some (l.filter fun v => decide (¬ v ∈ G))) (fun i C hi => ?_) (fun C => ?_) (((l.length : Nat) : Int).toNat + 1) 0 (Nat.zero_le _) (by simp)
    · simpa using this
    · unfold B_spec_l03Kept_l0
      have hle : ((l.take i).filter (fun v => decide (¬ v ∈ G))).length ≤ i := Nat.le_trans (List.length_filter_le _ _) (by rw [List.length_take]; omega)
      have hskip := specSkip G l ((l.take i).filter (fun v => decide (¬ v ∈ G))) i (if i = 0 then 0 else posOf G (l.getD (i - 1) ZVersion)) hG hi (by split <;> first | exact Nat.zero_le _ | exact List.findIdx_le_length) (fun j hj hjk => by
        split at hjk
        · omega
        · rename_i h0
          have h1 := List.not_of_lt_findIdx (p := fun g => !ahead g (l.getD (i - 1) ZVersion)) (xs := G) hjk
          have h2 : ahead G[j] (l.getD (i - 1) ZVersion) = true := by simpa using h1
          have h3 := adj_strict sl (i - 1) (by omega)
          rw [show i - 1 + 1 = i from by omega] at h3
          exact ahead_weak.trans h2 (ahead_iff.2 h3))
      simp (disch := omega) only [wrap_succ, Int.toNat_natCast]
      rw [br_pos (by omega), hskip, bnd_some']
      simp (disch := omega) only [wrap_succ, Int.toNat_natCast]
      rw [filter_take (z := ZVersion) hi]
      have hm := mem_pos sG (l.getD i ZVersion)
      have hnx : (if i + 1 = 0 then 0 else posOf G (l.getD (i + 1 - 1) ZVersion)) = posOf G (l.getD i ZVersion) := by simp
      rw [hnx]
      generalize hp : posOf G (l.getD i ZVersion) = p at hm ⊢
      by_cases hlt : p < G.length
      · rw [br_neg (by omega), br_pos (by omega), br_pos (by omega), br_pos (by omega), br_pos (by omega)]
        rw [show List.getD G p ZVersion = G[p] from getD_lt hlt, eqVer]
        by_cases he : G[p] = l.getD i ZVersion
        · have hin : l.getD i ZVersion ∈ G := hm.2 ⟨hlt, he⟩
          have e1 : decide (G[p] = l.getD i ZVersion) = true := decide_eq_true he
          rw [e1]
          simp only [Bool.not_true, brF, hin, not_true_eq_false, decide_false, Bool.false_eq_true, if_false, List.append_nil]
        · have hin : ¬ l.getD i ZVersion ∈ G := fun h => he (hm.1 h).2
          have e1 : decide (G[p] = l.getD i ZVersion) = false := decide_eq_false he
          rw [e1]
          simp only [Bool.not_false, brT, hin, not_false_eq_true, decide_true, if_true]
          rw [br_pos (by omega), br_pos (by omega), br_pos (by simp only [List.length_cons, List.length_nil]; unfold capN; omega)]
      · have hin : ¬ l.getD i ZVersion ∈ G := fun h => hlt (hm.1 h).1
        rw [br_pos (by omega), br_pos (by omega), br_pos (by omega), br_pos (by simp only [List.length_cons, List.length_nil]; unfold capN; omega)]
        simp only [hin, not_false_eq_true, decide_true, if_true]
    · unfold B_spec_l03Kept_l0
      rw [br_neg (by simp)]
      simp only [List.take_length]
  unfold F_spec_l03Kept
  rw [key]; rfl
theorem strict_tie {l : List DVersion} (h : Strict l) {g v : DVersion} (hg : g ∈ l) (hv : v ∈ l) (ht : Tie g v) : g = v := by
  obtain ⟨i, hi, rfl⟩ := List.mem_iff_getElem.1 hg
  obtain ⟨j, hj, rfl⟩ := List.mem_iff_getElem.1 hv
  have hp := List.pairwise_iff_getElem.1 h
  rcases Nat.lt_trichotomy i j with h | h | h
  · exact absurd (hp i j hi hj h) ht.1
  · subst h; rfl
  · exact absurd (hp j i hj hi h) ht.2
theorem filt_len (ks : List (List UInt8)) : (filt ks).length ≤ 1048576 := by
  unfold filt rowL
  rw [List.length_map, fold_len, List.length_replicate]
  unfold filtN
  omega
/-- one run that stays -/
def keepR (P : DVersion → Bool) (r : DRun) : List DRun := if 0 < (r.1.filter P).length then [(r.1.filter P, filt (keysL (r.1.filter P)), ())] else []
theorem sml_filter {l : List DVersion} (h : SmL l) (P : DVersion → Bool) : SmL (l.filter P) := ⟨Nat.le_trans (List.length_filter_le _ _) h.1, fun v hv => h.2 v (List.mem_filter.1 hv).1⟩
theorem flat_take {α β : Type} {l : List α} {i : Nat} {z : α} (hi : i < l.length) (f : α → List β) : (l.take (i + 1)).flatMap f = (l.take i).flatMap f ++ f (l.getD i z) := by
  rw [← take_snoc (z := z) hi, List.flatMap_append]; simp
theorem keepR_len (P : DVersion → Bool) (l : List DRun) : (l.flatMap (keepR P)).length ≤ l.length := by
  induction l with
  | nil => simp
  | cons r l ih =>
    have : (keepR P r).length ≤ 1 := by unfold keepR; split <;> simp
    simp only [List.flatMap_cons, List.length_append, List.length_cons]
    omega
theorem implRunsKept (s : DStore) (hs : Sm_Store 1048576 s) (hr : s.2.1.length ≤ 12) (Z : DStore) (m : List (Dka × Bool)) (mem : List DVersion) (low : DTime) :
    F_impl_StoreCollect_l2 Z (m, ()) (mem, [], low, ()) s.2.1 (s.2.1.length : Int) 0 = some (Z, mem, s.2.1.flatMap (keepR fun v => !(mgetD T199 T4 (kOf v) m)), low, ()) := by
  unfold F_impl_StoreCollect_l2
  have := loop_run (B := B_impl_StoreCollect_l2) (fun i => (Z, (m, ()), (mem, (s.2.1.take i).flatMap (keepR fun v => !(mgetD T199 T4 (kOf v) m)), low, ()), s.2.1, (s.2.1.length : Int), ((i : Nat) : Int))) s.2.1.length (some (Z, mem, s.2.1.flatMap (keepR fun v => !(mgetD T199 T4 (kOf v) m)), low, ())) (fun i C hi => ?_) (fun C => ?_) (((s.2.1.length : Nat) : Int).toNat + 1) 0 (Nat.zero_le _) (by simp)
  · simpa using this
  · unfold B_impl_StoreCollect_l2
    have h1 := sm_run hs i hi
    have h2 := sml_filter h1 (fun v => !(mgetD T199 T4 (kOf v) m))
    have hle : ((s.2.1.take i).flatMap (keepR fun v => !(mgetD T199 T4 (kOf v) m))).length ≤ i := Nat.le_trans (keepR_len _ _) (by rw [List.length_take]; omega)
    simp (disch := omega) only [wrap_succ, Int.toNat_natCast]
    rw [br_pos (by omega), br_pos (by omega), br_pos (by omega), implKeep _ _ h1.1, bnd_some', flat_take (z := ZRun) hi]
    by_cases h0 : 0 < ((s.2.1.getD i ZRun).1.filter fun v => !(mgetD T199 T4 (kOf v) m)).length
    · rw [br_pos (by omega), implKeys _ h2, bnd_some', implFilter _ (keys_of h2), bnd_some', br_pos (by simp only [List.length_cons, List.length_nil]; unfold capN; omega)]
      unfold keepR
      rw [if_pos h0]
    · rw [br_neg (by omega)]
      unfold keepR
      rw [if_neg h0, List.append_nil]
  · unfold B_impl_StoreCollect_l2
    rw [br_neg (by simp)]
    simp only [List.take_length]
theorem specRunsKept (s : DStore) (hs : Sm_Store 1048576 s) (hr : s.2.1.length ≤ 12) (Z : DStore) (G : List DVersion) (hG : G.length ≤ 1048576) (sG : Strict G) (hsr : ∀ i, i < s.2.1.length → Strict (s.2.1.getD i ZRun).1) (mem : List DVersion) (low : DTime) :
    F_spec_StoreCollect_l0 s Z G (mem, [], low, ()) 0 = some (Z, mem, s.2.1.flatMap (keepR fun v => decide (¬ v ∈ G)), low, ()) := by
  unfold F_spec_StoreCollect_l0
  have := loop_run (B := B_spec_StoreCollect_l0) (fun i => (s, Z, G, (mem, (s.2.1.take i).flatMap (keepR fun v => decide (¬ v ∈ G)), low, ()), ((i : Nat) : Int))) s.2.1.length (some (Z, mem, s.2.1.flatMap (keepR fun v => decide (¬ v ∈ G)), low, ())) (fun i C hi => ?_) (fun C => ?_) (((s.2.1.length : Nat) : Int).toNat + 1) 0 (Nat.zero_le _) (by simp)
  · simpa using this
  · unfold B_spec_StoreCollect_l0
    have h1 := sm_run hs i hi
    have h2 := sml_filter h1 (fun v => decide (¬ v ∈ G))
    have hle : ((s.2.1.take i).flatMap (keepR fun v => decide (¬ v ∈ G))).length ≤ i := Nat.le_trans (keepR_len _ _) (by rw [List.length_take]; omega)
    simp (disch := omega) only [wrap_succ, Int.toNat_natCast]
    rw [br_pos (by omega), br_pos (by omega), br_pos (by omega), specKept _ _ hG h1.1 sG (hsr i hi), bnd_some', flat_take (z := ZRun) hi]
    by_cases h0 : 0 < ((s.2.1.getD i ZRun).1.filter fun v => decide (¬ v ∈ G)).length
    · rw [br_pos (by omega)]
      unfold F_spec_l03RunOf
      rw [specKeys _ h2]
      simp only [bnd_some']
      rw [br_pos (by simp only [List.length_cons, List.length_nil]; unfold capN; omega)]
      unfold keepR
      rw [if_pos h0]
    · rw [br_neg (by omega)]
      unfold keepR
      rw [if_neg h0, List.append_nil]
  · unfold B_spec_StoreCollect_l0
    rw [br_neg (by simp)]
    simp only [List.take_length]
end Go.Ev.T1
