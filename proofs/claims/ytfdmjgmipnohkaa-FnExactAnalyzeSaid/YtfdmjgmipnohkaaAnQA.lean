/- Analyze: how many values lie under each bound, both ways. -/
import Derived.Test.YtfdmjgmipnohkaaAnQ8
set_option linter.unusedSimpArgs false
set_option linter.unusedVariables false
set_option maxRecDepth 100000
namespace Go.Ev.T1
open Go Go.Proofs
/-- where the values end that are not behind v -/
def pf (L : List DValue) (v : DValue) : Nat := L.findIdx fun x => lv v x
theorem pf_le (L : List DValue) (v : DValue) : pf L v ≤ L.length := List.findIdx_le_length
theorem pf_iff {L : List DValue} (hs : Srt lv L) (v : DValue) (j : Nat) (hj : j < L.length) : lv v (L.getD j ZValue) = false ↔ j < pf L v := by
  have e : ∀ k (hk : k < L.length), L.getD k ZValue = L[k] := fun k hk => by simp [List.getD_eq_getElem?_getD, hk]
  constructor
  · intro h
    by_cases g : j < pf L v
    · exact g
    · exfalso
      have hp : pf L v < L.length := by omega
      have h2 : lv v L[pf L v] = true := List.findIdx_getElem (p := fun x => lv v x) (w := hp)
      rw [e j hj] at h
      by_cases g' : pf L v = j
      · subst g'; rw [h] at h2; cases h2
      · have := lv_weak.neg _ _ _ h (List.pairwise_iff_getElem.1 hs (pf L v) j hp hj (by omega))
        rw [this] at h2; cases h2
  · intro h
    have := List.not_of_lt_findIdx (p := fun x => lv v x) h
    rw [e j hj]
    simpa using this
def lo (L B : List DValue) (i : Nat) : Nat := if i = 0 then 0 else pf L (B.getD (i - 1) ZValue)
theorem lo_succ (L B : List DValue) (i : Nat) : lo L B (i + 1) = pf L (B.getD i ZValue) := by unfold lo; rw [if_neg (by omega), Nat.add_sub_cancel]
theorem lo_le {L B : List DValue} (hs : Srt lv L) (hB : Srt lv B) (i : Nat) (hi : i < B.length) : lo L B i ≤ pf L (B.getD i ZValue) := by
  unfold lo
  by_cases h0 : i = 0
  · rw [if_pos h0]; omega
  · rw [if_neg h0]
    have e : ∀ k (hk : k < B.length), B.getD k ZValue = B[k] := fun k hk => by simp [List.getD_eq_getElem?_getD, hk]
    have hle : lv (B.getD i ZValue) (B.getD (i - 1) ZValue) = false := by
      rw [e i hi, e (i - 1) (by omega)]
      exact List.pairwise_iff_getElem.1 hB (i - 1) i (by omega) hi (by omega)
    by_cases g : pf L (B.getD (i - 1) ZValue) ≤ pf L (B.getD i ZValue)
    · exact g
    · exfalso
      have hp := pf_le L (B.getD (i - 1) ZValue)
      have h1 := (pf_iff hs (B.getD (i - 1) ZValue) (pf L (B.getD i ZValue)) (by omega)).2 (by omega)
      have h2 := (pf_iff hs (B.getD i ZValue) (pf L (B.getD i ZValue)) (by omega)).1 (lv_weak.neg _ _ _ hle h1)
      omega
def cnt (L B : List DValue) (i : Nat) : Int := ((pf L (B.getD i ZValue) - lo L B i : Nat) : Int)
def cnts (L B : List DValue) (k : Nat) : List Int := (List.range k).map (cnt L B)
theorem cnts_succ (L B : List DValue) (k : Nat) : cnts L B (k + 1) = cnts L B k ++ [cnt L B k] := by
  unfold cnts; rw [List.range_succ, List.map_append]; rfl
theorem cnts_len (L B : List DValue) (k : Nat) : (cnts L B k).length = k := by unfold cnts; simp
theorem specCount (v6 : DHist) (n nu d : Int) (L B : List DValue) (cs : List Int) (i : Nat) (hi : i < B.length) (hn : Nn L) (h1 : One L) (hl : L.length ≤ 2000) (hb : B.length ≤ 2000) (hs : Srt lv L) (hB : Srt lv B) (hm : ∀ x ∈ B, x ∈ L) :
    F_spec_Analyze_l10 v6 (n, nu, d, B, cs, ()) L i 0 0 = some (v6, (n, nu, d, B, cs, ()), L, (i : Int), cnt L B i) := by
  have hlo := lo_le hs hB i hi
  have hp := pf_le L (B.getD i ZValue)
  unfold F_spec_Analyze_l10
  refine run_loop (fun k => (v6, (n, nu, d, B, cs, ()), L, (i : Int), ((min k (pf L (B.getD i ZValue)) - min k (lo L B i) : Nat) : Int), ((k : Nat) : Int))) L.length (fun k C hk => ?_) (fun C => ?_) (by omega)
  · unfold B_spec_Analyze_l10
    simp (disch := omega) only [wrap_succ, Int.toNat_natCast]
    have mk : L.getD k ZValue ∈ L := mem_getD hk
    have mi : B.getD i ZValue ∈ L := hm _ (mem_getD hi)
    have q := pf_iff hs (B.getD i ZValue) k hk
    have c := cv_gt (h1 _ mk _ mi)
    rw [br_pos (by omega), br_pos (by omega), br_pos (by omega), br_pos (by omega), br_pos (by omega), scmp hn h1 mk mi, bnd_some']
    by_cases g : k < pf L (B.getD i ZValue)
    · have hc : cv (L.getD k ZValue) (B.getD i ZValue) ≤ 0 := by
        rcases Int.lt_or_le 0 (cv (L.getD k ZValue) (B.getD i ZValue)) with h | h
        · have := c.1 h; rw [q.2 g] at this; cases this
        · exact h
      rw [br_pos hc, beq_dec, br_if]
      by_cases h0 : i = 0
      · have : lo L B i = 0 := by unfold lo; rw [if_pos h0]
        rw [if_pos (by omega), this]
        congr 1
        simp only [Prod.mk.injEq, true_and, and_true]
        omega
      · rw [if_neg (by omega)]
        have e : IntKind.i64.wrap ((i : Int) - 1) = ((i - 1 : Nat) : Int) := by rw [wrap_eq (by omega) (by omega)]; omega
        have mi' : B.getD (i - 1) ZValue ∈ L := hm _ (mem_getD (by omega))
        have q' := pf_iff hs (B.getD (i - 1) ZValue) k hk
        have c' := cv_gt (h1 _ mk _ mi')
        have el : lo L B i = pf L (B.getD (i - 1) ZValue) := by unfold lo; rw [if_neg h0]
        rw [e, Int.toNat_natCast, br_pos (by omega), br_pos (by omega), br_pos (by omega), br_pos (by omega), scmp hn h1 mk mi', bnd_some', el]
        by_cases g' : k < pf L (B.getD (i - 1) ZValue)
        · rw [br_neg (fun h => by have := c'.1 h; rw [q'.2 g'] at this; cases this)]
          congr 1
          simp only [Prod.mk.injEq, true_and, and_true]
          omega
        · rw [br_pos]
          · congr 1
            simp only [Prod.mk.injEq, true_and, and_true]
            omega
          · refine c'.2 ?_
            cases e' : lv (B.getD (i - 1) ZValue) (L.getD k ZValue) with
            | true => rfl
            | false => exact absurd (q'.1 e') g'
    · have hc : ¬ cv (L.getD k ZValue) (B.getD i ZValue) ≤ 0 := by
        have : cv (L.getD k ZValue) (B.getD i ZValue) > 0 := by
          refine c.2 ?_
          cases e' : lv (B.getD i ZValue) (L.getD k ZValue) with
          | true => rfl
          | false => exact absurd (q.1 e') g
        omega
      rw [br_neg hc]
      congr 1
      simp only [Prod.mk.injEq, true_and, and_true]
      omega
  · unfold B_spec_Analyze_l10
    rw [br_neg (Int.lt_irrefl _)]
    unfold cnt
    rw [Nat.min_eq_right hp, Nat.min_eq_right (Nat.le_trans hlo hp)]
theorem implCount (H : DHist) (L B : List DValue) (i : Nat) (a b : Int) (hi : i < B.length) (hn : Nn L) (h1 : One L) (hl : L.length ≤ 2000) (hs : Srt lv L) (hB : Srt lv B) (hm : ∀ x ∈ B, x ∈ L) :
    F_impl_Analyze_l10 H L (lo L B i : Int) (B.getD i ZValue) 0 () a b = some (H, L, (lo L B (i + 1) : Int), cnt L B i, (), a, b) := by
  have hlo := lo_le hs hB i hi
  have hp := pf_le L (B.getD i ZValue)
  have mi : B.getD i ZValue ∈ L := hm _ (mem_getD hi)
  unfold F_impl_Analyze_l10
  rw [lo_succ]
  unfold cnt
  refine run_loop (fun k => (H, L, ((lo L B i + k : Nat) : Int), B.getD i ZValue, ((k : Nat) : Int), (), a, b)) (pf L (B.getD i ZValue) - lo L B i) (fun k C hk => ?_) (fun C => ?_) (by omega)
  · unfold B_impl_Analyze_l10
    simp (disch := omega) only [wrap_succ, Int.toNat_natCast]
    have hj : lo L B i + k < L.length := by omega
    have mk : L.getD (lo L B i + k) ZValue ∈ L := mem_getD hj
    have q := pf_iff hs (B.getD i ZValue) _ hj
    have c := cv_gt (h1 _ mk _ mi)
    have hc : cv (L.getD (lo L B i + k) ZValue) (B.getD i ZValue) ≤ 0 := by
      rcases Int.lt_or_le 0 (cv (L.getD (lo L B i + k) ZValue) (B.getD i ZValue)) with h | h
      · have := c.1 h; rw [q.2 (by omega)] at this; cases this
      · exact h
    rw [br_pos (by omega), br_pos (by omega), br_pos (by omega), kcmp hn h1 mk mi, bnd_some', br_pos hc]
    rfl
  · unfold B_impl_Analyze_l10
    simp only [Int.toNat_natCast]
    have e : lo L B i + (pf L (B.getD i ZValue) - lo L B i) = pf L (B.getD i ZValue) := by omega
    rw [e]
    by_cases hj : pf L (B.getD i ZValue) < L.length
    · have mk : L.getD (pf L (B.getD i ZValue)) ZValue ∈ L := mem_getD hj
      have q := pf_iff hs (B.getD i ZValue) _ hj
      have c := cv_gt (h1 _ mk _ mi)
      have hc : ¬ cv (L.getD (pf L (B.getD i ZValue)) ZValue) (B.getD i ZValue) ≤ 0 := by
        have : cv (L.getD (pf L (B.getD i ZValue)) ZValue) (B.getD i ZValue) > 0 := by
          refine c.2 ?_
          cases e' : lv (B.getD i ZValue) (L.getD (pf L (B.getD i ZValue)) ZValue) with
          | true => rfl
          | false => exact absurd (q.1 e') (Nat.lt_irrefl _)
        omega
      rw [br_pos (by omega), br_pos (by omega), br_pos (by omega), kcmp hn h1 mk mi, bnd_some', br_neg hc]
    · rw [br_neg (by omega)]
theorem specCounts (v6 : DHist) (n nu d : Int) (L B : List DValue) (hn : Nn L) (h1 : One L) (hl : L.length ≤ 2000) (hb : B.length ≤ 2000) (hs : Srt lv L) (hB : Srt lv B) (hm : ∀ x ∈ B, x ∈ L) :
    F_spec_Analyze_l8 v6 (n, nu, d, B, [], ()) L 0 = some (v6, (n, nu, d, B, cnts L B B.length, ())) := by
  unfold F_spec_Analyze_l8
  refine run_loop (fun i => (v6, (n, nu, d, B, cnts L B i, ()), L, ((i : Nat) : Int))) B.length (fun i C hi => ?_) (fun C => ?_) (by show (((B.length : Nat) : Int)).toNat + 1 > _; omega)
  · have hc := cnts_len L B i
    unfold B_spec_Analyze_l8
    simp only
    rw [br_pos (by omega), specCount v6 n nu d L B _ i hi hn h1 hl hb hs hB hm, bnd_some']
    dsimp only
    rw [br_pos (by simp only [List.length_singleton]; unfold capN; omega), wrap_succ (by omega), cnts_succ]
  · unfold B_spec_Analyze_l8
    exact br_neg (Int.lt_irrefl _) _ _
theorem implCounts (n nu d : Int) (L B : List DValue) (hn : Nn L) (h1 : One L) (hl : L.length ≤ 2000) (hb : B.length ≤ 2000) (hs : Srt lv L) (hB : Srt lv B) (hm : ∀ x ∈ B, x ∈ L) :
    F_impl_Analyze_l8 (n, nu, d, B, [], ()) L 0 () B.length 0 = some (n, nu, d, B, cnts L B B.length, ()) := by
  unfold F_impl_Analyze_l8
  refine run_loop (fun i => ((n, nu, d, B, cnts L B i, ()), L, (lo L B i : Int), (), (B.length : Int), ((i : Nat) : Int))) B.length (fun i C hi => ?_) (fun C => ?_) (by omega)
  · have hc := cnts_len L B i
    unfold B_impl_Analyze_l8
    simp only [Int.toNat_natCast]
    rw [br_pos (by omega), br_pos (by omega), br_pos (by omega), implCount _ L B i _ _ hi hn h1 hl hs hB hm, bnd_some']
    dsimp only
    rw [br_pos (by simp only [List.length_singleton]; unfold capN; omega), wrap_succ (by omega), cnts_succ]
  · unfold B_impl_Analyze_l8
    exact br_neg (Int.lt_irrefl _) _ _
/-- the bounds are in order -/
theorem sbs_srt (step : Nat) {L : List DValue} (hs : Srt lv L) : ∀ k, k ≤ L.length → Srt lv (sbs step L k) ∧ ∀ x ∈ sbs step L k, ∀ j (hj : j < L.length), k ≤ j → lv L[j] x = false
  | 0, _ => ⟨List.Pairwise.nil, fun x h => by cases h⟩
  | k + 1, hk => by
    obtain ⟨i1, i2⟩ := sbs_srt step hs k (by omega)
    have e : L.getD k ZValue = L[k] := by simp [List.getD_eq_getElem?_getD, show k < L.length by omega]
    have key : Srt lv (sbs step L k ++ [L.getD k ZValue]) ∧ ∀ x ∈ sbs step L k ++ [L.getD k ZValue], ∀ j (hj : j < L.length), k + 1 ≤ j → lv L[j] x = false := by
      constructor
      · refine List.pairwise_append.2 ⟨i1, List.pairwise_singleton _ _, fun a ha b hb => ?_⟩
        rw [List.mem_singleton] at hb; subst hb
        rw [e]; exact i2 a ha k (by omega) (Nat.le_refl _)
      · intro x hx j hj hkj
        rcases List.mem_append.1 hx with h | h
        · exact i2 x h j hj (by omega)
        · rw [List.mem_singleton] at h; subst h
          rw [e]; exact List.pairwise_iff_getElem.1 hs k j (by omega) hj (by omega)
    have old : Srt lv (sbs step L k) ∧ ∀ x ∈ sbs step L k, ∀ j (hj : j < L.length), k + 1 ≤ j → lv L[j] x = false := ⟨i1, fun x hx j hj h => i2 x hx j hj (by omega)⟩
    simp only [sbs]
    split
    · unfold addB
      split
      · exact key
      · split
        · exact old
        · exact key
    · exact old
end Go.Ev.T1
