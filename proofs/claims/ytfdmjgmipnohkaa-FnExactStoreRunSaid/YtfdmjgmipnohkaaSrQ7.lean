import Derived.Test.YtfdmjgmipnohkaaSrQ5c
import Derived.Test.YtfdmjgmipnohkaaSrSz
set_option linter.unusedSimpArgs false
set_option linter.unusedVariables false
namespace Go.Ev.T1
open Go Go.Proofs
def Sm_Run (n : Nat) (a : DRun) : Prop := (a.1.length ≤ n ∧ ∀ y ∈ a.1, Sm_Version n y) ∧ a.2.1.length ≤ n
def Sm_Store (n : Nat) (a : y3q) : Prop := (a.1.length ≤ n ∧ ∀ y ∈ a.1, Sm_Version n y) ∧ (a.2.1.length ≤ n ∧ ∀ y ∈ a.2.1, Sm_Run n y) ∧ Sm_Time n a.2.2.1
def SmL (l : List y0q) : Prop := l.length ≤ 1048576 ∧ ∀ v ∈ l, Sm_Version 1048576 v
def keysL (l : List y0q) : List (List UInt8) := l.map fun v => v.1
theorem keys_of {l : List y0q} (h : SmL l) : Keys (keysL l) := by
 refine ⟨by simpa [keysL] using h.1, fun k hk => ?_⟩
 obtain ⟨v, hv, rfl⟩ := List.mem_map.1 hk
 exact (h.2 v hv).1
theorem keys_take (l : List y0q) (i : Nat) (hi : i < l.length) : keysL (l.take i) ++ [(l.getD i y1q).1] = keysL (l.take (i + 1)) := by
 unfold keysL
 rw [List.take_succ_eq_append_getElem hi, List.map_append, y33q hi]; rfl
theorem implKeys (l : List y0q) (h : SmL l) : F_u45f l = some (keysL l) := by
 have h1 := h.1
 have key : F_u45f_l0 [] l (l.length : Int) 0 = some (keysL l) := by
  unfold F_u45f_l0
  have := y38q (B := B_u45f_l0) (fun i => (keysL (l.take i), l, (l.length : Int), ((i : Nat) : Int))) l.length (some (keysL l)) (fun i C hi => ?_) (fun C => ?_) (((l.length : Nat) : Int).toNat + 1) 0 (Nat.zero_le _) (by simp)
  ·exact this
  ·unfold B_u45f_l0
   simp (disch := omega) only [y9q, Int.toNat_natCast]
   rw [y2q (by omega), y2q (by omega), y2q (by omega), y2q (by simp [keysL]; unfold capN; omega), keys_take l i hi]
  ·unfold B_u45f_l0
   rw [y11q (by simp)]
   simp only [List.take_length]
 unfold F_u45f
 rw [y127q key]
theorem specKeys (l : List y0q) (h : SmL l) : F_u13f l = some (filt (keysL l)) := by
 have h1 := h.1
 have key : F_u13f_l0 l [] 0 = some (keysL l) := by
  unfold F_u13f_l0
  have := y38q (B := B_u13f_l0) (fun i => (l, keysL (l.take i), ((i : Nat) : Int))) l.length (some (keysL l)) (fun i C hi => ?_) (fun C => ?_) (((l.length : Nat) : Int).toNat + 1) 0 (Nat.zero_le _) (by simp)
  ·exact this
  ·unfold B_u13f_l0
   simp (disch := omega) only [y9q, Int.toNat_natCast]
   rw [y2q (by omega), y2q (by omega), y2q (by omega), y2q (by simp [keysL]; unfold capN; omega), keys_take l i hi]
  ·unfold B_u13f_l0
   rw [y11q (by simp)]
   simp only [List.take_length]
 unfold F_u13f
 rw [y127q key, y127q (specFilter _ (keys_of h))]
def sumN (s : y3q) (i : Nat) : Nat := s.1.length + ((s.2.1.take i).flatMap fun r => r.1).length
theorem sum_succ (s : y3q) (i : Nat) (hi : i < s.2.1.length) : sumN s (i + 1) = sumN s i + (s.2.1.getD i ZRun).1.length := by
 unfold sumN
 rw [List.take_succ_eq_append_getElem hi, List.flatMap_append, y33q hi]
 simp; omega
theorem sum_all (s : y3q) : sumN s s.2.1.length = (rawAll s).length := by
 unfold sumN rawAll; rw [List.take_length, List.length_append]
theorem sum_zero (s : y3q) : sumN s 0 = s.1.length := by simp [sumN]
theorem sum_le (s : y3q) (i : Nat) : ∀ d, i + d ≤ s.2.1.length → sumN s i ≤ sumN s (i + d)
 | 0, _ => Nat.le_refl _
 | d + 1, h => by
  have := sum_le s i d (by omega)
  have e := sum_succ s (i + d) (by omega)
  rw [show i + (d + 1) = i + d + 1 by omega, e]; omega
theorem sum_all_le (s : y3q) (i : Nat) (h : i ≤ s.2.1.length) : sumN s i ≤ (rawAll s).length := by
 have := sum_le s i (s.2.1.length - i) (by omega)
 rw [show i + (s.2.1.length - i) = s.2.1.length by omega, sum_all] at this
 exact this
def RunP (r : DRun) : Prop := ¬ r.1.length = 0 ∧ ListP r.1 ∧ r.2.1 = filt (keysL r.1)
def OKP (s : y3q) : Prop := TimeP s.2.2.1 ∧ s.2.1.length ≤ 12 ∧ (rawAll s).length ≤ 4000 ∧ ListP s.1 ∧ (∀ i, i < s.2.1.length → RunP (s.2.1.getD i ZRun)) ∧ Strict (stab ahead (rawAll s))
theorem okp_srt {s : y3q} (h0 : ListP s.1) (h1 : ∀ i, i < s.2.1.length → RunP (s.2.1.getD i ZRun)) : Srt ahead s.1 ∧ ∀ r ∈ s.2.1, Srt ahead r.1 := by
 refine ⟨y128q (y35q h0), fun r hr => ?_⟩
 obtain ⟨i, hi, rfl⟩ := List.getElem_of_mem hr
 have := (h1 i hi).2.1
 rw [y33q hi] at this
 exact y128q (y35q this)
theorem sm_run {s : y3q} (h : Sm_Store 1048576 s) (i : Nat) (hi : i < s.2.1.length) : SmL (s.2.1.getD i ZRun).1 := by
 rw [y33q hi]; exact (h.2.1.2 _ (List.getElem_mem hi)).1
theorem specSum (s : y3q) (hs : Sm_Store 1048576 s) (h : s.2.1.length ≤ 12) : F_u14f_l0 s (s.1.length : Int) 0 = some (s, ((rawAll s).length : Int)) := by
 unfold F_u14f_l0
 have hb : ∀ i, i ≤ s.2.1.length → sumN s i ≤ 1048576 * (i + 1) := by
  intro i
  induction i with
  | zero => intro _; rw [sum_zero]; have := hs.1.1; omega
  | succ i ih => intro hi; rw [sum_succ s i (by omega)]; have := (sm_run hs i (by omega)).1; have := ih (by omega); omega
 have := y38q (B := B_u14f_l0) (fun i => (s, ((sumN s i : Nat) : Int), ((i : Nat) : Int))) s.2.1.length (some (s, ((rawAll s).length : Int))) (fun i C hi => ?_) (fun C => ?_) (((s.2.1.length : Nat) : Int).toNat + 1) 0 (Nat.zero_le _) (by simp)
 ·rw [sum_zero] at this
  exact this
 ·unfold B_u14f_l0
  have h1 := hb (i + 1) (by omega)
  have h2 := sum_succ s i hi
  simp (disch := omega) only [y9q, Int.toNat_natCast]
  rw [y2q (by omega), y2q (by omega), y2q (by omega), y17q (by omega) (by omega), h2]
  congr 2
 ·unfold B_u14f_l0
  rw [y11q (by simp)]
  simp only [sum_all]
theorem specRuns (s : y3q) (hs : Sm_Store 1048576 s) : Ans (F_u14f_l2 s 0) (some (.inl s)) (some (.inr false)) (∀ i, i < s.2.1.length → RunP (s.2.1.getD i ZRun)) := by
 have h1 := hs.2.1.1
 unfold F_u14f_l2
 refine ans_loop (fun i => (s, ((i : Nat) : Int))) _ _ (fun i C hi hb => ?_) (fun C _ => ?_) (by omega)
 ·unfold B_u14f_l2 RunP
  have hr := sm_run hs i hi
  simp (disch := omega) only [y9q, Int.toNat_natCast, y57q, not_dec]
  refine y41q (y19q (by omega) (y19q (by omega) (y19q (by omega) (y55q fun _ => y19q (by omega) (y19q (by omega) (y42q (specList _ hr.1) rfl fun _ => ans_brf (y19q (by omega) (y19q (by omega) (y19q (by omega) (y19q (by omega) (ans_val (specKeys _ hr) (y55q fun _ => ans_yes)))))))))))) ?_
  simp only [and_true, Decidable.not_not]
  have e : (((s.2.1.getD i ZRun).1.length : Int) = 0) ↔ (s.2.1.getD i ZRun).1.length = 0 := by omega
  rw [e]
 ·unfold B_u14f_l2
  exact y11q (by simp) _ _
theorem specOK (s : y3q) (hs : Sm_Store 1048576 s) : Ans (F_u14f s) (some true) (some false) (OKP s) := by
 have h0 := hs.1.1
 unfold F_u14f
 have key : Ans (F_u14f s) (some true) (some false) (TimeP s.2.2.1 ∧ ¬ ((s.2.1.length : Int) > 12) ∧ ¬ (((rawAll s).length : Int) > 4000) ∧ ListP s.1 ∧ (∀ i, i < s.2.1.length → RunP (s.2.1.getD i ZRun)) ∧ ListP (y73q s)) := by
  unfold F_u14f
  refine y42q (y94q _) rfl fun _ => ans_brf (y55q fun h12 => ans_val (specSum s hs (by omega)) (y55q fun h4 => y42q (specList s.1 h0) rfl fun _ => ans_brf (y42q (specRuns s hs) rfl fun _ => ?_)))
  have h4 : ¬ (((rawAll s).length : Int) > 4000) := h4
  have e := specAll s (by omega) (by omega)
  have el : (y73q s).length = (rawAll s).length := (y117q s).length_eq
  exact ans_val e (ans_bnd_end (specList _ (by omega)) rfl rfl)
 refine y41q key ?_
 unfold OKP
 constructor
 ·rintro ⟨a1, a2, a3, a4, a5, a6⟩
  obtain ⟨b1, b2⟩ := okp_srt a4 a5
  exact ⟨a1, by omega, by omega, a4, a5, (y101q s b1 b2).1 (y35q a6)⟩
 ·rintro ⟨a1, a2, a3, a4, a5, a6⟩
  obtain ⟨b1, b2⟩ := okp_srt a4 a5
  refine ⟨a1, by omega, by omega, a4, a5, listP_iff.2 ⟨fun v hv => ?_, (y101q s b1 b2).2 a6⟩⟩
  have hm : v ∈ rawAll s := (y117q s).mem_iff.1 hv
  rcases List.mem_append.1 hm with hm | hm
  ·exact (listP_iff.1 a4).1 v hm
  ·obtain ⟨r, hr, hm⟩ := List.mem_flatMap.1 hm
   obtain ⟨i, hi, rfl⟩ := List.getElem_of_mem hr
   have := (a5 i hi).2.1
   rw [y33q hi] at this
   exact (listP_iff.1 this).1 v hm
theorem implRuns (s : y3q) (hs : Sm_Store 1048576 s) (h0 : s.1.length ≤ 1048576) : Ans (F_u48f_l0 s (s.1.length : Int) s.2.1 (s.2.1.length : Int) 0) (some (.inl (s, ((rawAll s).length : Int)))) (some (.inr false)) (∀ i, i < s.2.1.length → sumN s (i + 1) ≤ 4000 ∧ RunP (s.2.1.getD i ZRun)) := by
 have h1 := hs.2.1.1
 unfold F_u48f_l0
 rw [show (s.1.length : Int) = ((sumN s 0 : Nat) : Int) by rw [sum_zero]]
 refine ans_loop (fun i => (s, ((sumN s i : Nat) : Int), s.2.1, (s.2.1.length : Int), ((i : Nat) : Int))) _ _ (fun i C hi hb => ?_) (fun C _ => ?_) (by omega)
 ·unfold B_u48f_l0 RunP
  have hr := sm_run hs i hi
  have hq := hr.1
  have hprev : sumN s i ≤ 1048576 := by
   cases i with
   | zero => rw [sum_zero]; exact h0
   | succ i => have := (hb i (by omega)).1; omega
  have hsum := sum_succ s i hi
  have ew : IntKind.i64.wrap (((sumN s i : Nat) : Int) + ((s.2.1.getD i ZRun).1.length : Int)) = ((sumN s (i + 1) : Nat) : Int) := by rw [y17q (by omega) (by omega)]; omega
  simp (disch := omega) only [y9q, Int.toNat_natCast, y57q, not_dec, ew]
  refine y41q (y19q (by omega) (y19q (by omega) (y19q (by omega) (y55q fun _ => y55q fun _ => y42q (implList _ hr.1) rfl fun _ => ans_brf (ans_val (implKeys _ hr) (ans_val (implFilter _ (keys_of hr)) (y55q fun _ => ans_yes))))))) ?_
  simp only [and_true, Decidable.not_not]
  have e : (((s.2.1.getD i ZRun).1.length : Int) = 0) ↔ (s.2.1.getD i ZRun).1.length = 0 := by omega
  rw [e]
  have e2 : ¬ (((sumN s (i + 1) : Nat) : Int) > 4000) ↔ sumN s (i + 1) ≤ 4000 := by omega
  rw [e2]
 ·unfold B_u48f_l0
  simp only [sum_all]
  exact y11q (by simp) _ _
theorem implApart (l : List y0q) (hl : l.length ≤ 1048576) : Ans (F_u48f_l2 l 1) (some (.inl ())) (some (.inr false)) (∀ j, j < l.length - 1 → ¬ Tie (l.getD (j + 1) y1q) (l.getD j y1q)) := by
 unfold F_u48f_l2
 refine ans_loop (fun j => (l, ((j + 1 : Nat) : Int))) _ _ (fun j C hj hb => ?_) (fun C _ => ?_) (by omega)
 ·unfold B_u48f_l2
  have ew : IntKind.i64.wrap (((j + 1 : Nat) : Int) - 1) = ((j : Nat) : Int) := by rw [y17q (by omega) (by omega)]; omega
  simp (disch := omega) only [y9q, Int.toNat_natCast, ew, eqI_dec, andB_true, andB_dec, y57q]
  refine y41q (y19q (by omega) (y19q (by omega) (y19q (by omega) (y19q (by omega) (y19q (by omega) (ans_br (fun _ => y19q (by omega) (y19q (by omega) (y19q (by omega) (y19q (by omega) (y55q fun _ => ans_yes))))) fun _ => ans_yes)))))) ?_
  rw [tie_iff]
  simp only [and_true, not_and]
  grind
 ·unfold B_u48f_l2
  refine y11q ?_ _ _
  show ¬ (((l.length - 1 + 1 : Nat) : Int) < (l.length : Int))
  omega
theorem apart_strict (l : List y0q) (h : Srt ahead l) : (∀ j, j < l.length - 1 → ¬ Tie (l.getD (j + 1) y1q) (l.getD j y1q)) ↔ Strict l := by
 constructor
 ·intro k
  refine strict_adj l fun i hi => ?_
  have k := k i (by omega)
  have hs : ahead (l.getD (i + 1) y1q) (l.getD i y1q) = false := by
   rw [y33q hi, y33q (show i < l.length by omega)]
   exact (List.pairwise_iff_getElem.1 h) i (i + 1) (by omega) hi (by omega)
  by_cases ha : Ahead (l.getD i y1q) (l.getD (i + 1) y1q)
  ·exact ha
  ·refine absurd ⟨fun hb => ?_, ha⟩ k
   rw [y28q.2 hb] at hs; cases hs
 ·intro k j hj ht
  exact ht.2 (adj_strict k j (by omega))
theorem implOK (s : y3q) (hs : Sm_Store 1048576 s) : Ans (F_u48f s) (some true) (some false) (OKP s) := by
 have h0 := hs.1.1
 have key : Ans (F_u48f s) (some true) (some false) (ListP s.1 ∧ ¬ ((s.2.1.length : Int) > 12) ∧ TimeP s.2.2.1 ∧ (∀ i, i < s.2.1.length → sumN s (i + 1) ≤ 4000 ∧ RunP (s.2.1.getD i ZRun)) ∧ ¬ (((rawAll s).length : Int) > 4000) ∧ ∀ j, j < (stab ahead (rawAll s)).length - 1 → ¬ Tie ((stab ahead (rawAll s)).getD (j + 1) y1q) ((stab ahead (rawAll s)).getD j y1q)) := by
  unfold F_u48f
  refine y42q (implList s.1 h0) rfl fun _ => ans_brf (y55q fun h12 => y42q (y93q _) rfl fun _ => ans_brf (y42q (implRuns s hs h0) rfl fun _ => ?_))
  simp only [y99q]
  refine y55q fun h4 => ?_
  have e := implAll s (by omega) (by omega)
  have el : (stab ahead (rawAll s)).length = (rawAll s).length := (y39q _).length_eq
  exact ans_val e (ans_bnd_end (implApart _ (by omega)) rfl rfl)
 refine y41q key ?_
 rw [apart_strict _ (y103q y32q _)]
 unfold OKP
 constructor
 ·rintro ⟨a1, a2, a3, a4, a5, a6⟩
  exact ⟨a3, by omega, by omega, a1, fun i hi => (a4 i hi).2, a6⟩
 ·rintro ⟨a1, a2, a3, a4, a5, a6⟩
  refine ⟨a4, by omega, a1, fun i hi => ⟨?_, a5 i hi⟩, by omega, a6⟩
  have := sum_all_le s (i + 1) (by omega)
  omega
end Go.Ev.T1
