/- Analyze: the loops that find the bounds. -/
import Derived.Test.YtfdmjgmipnohkaaAnQ7
set_option linter.unusedSimpArgs false
set_option linter.unusedVariables false
set_option maxRecDepth 100000
namespace Go.Ev.T1
open Go Go.Proofs
/-- nothing is added within a step -/
theorem sbm_same (step : Nat) (L : List DValue) (m : Nat) : ∀ j, j < step → sbm step L (step * m + j) = sbm step L (step * m)
  | 0, _ => rfl
  | j + 1, h => by
    rw [← Nat.add_assoc]
    simp only [sbm]
    rw [if_neg, sbm_same step L m j (by omega)]
    rw [Nat.add_assoc, Nat.mul_add_mod, Nat.mod_eq_of_lt h]; omega
theorem sbm_next (step : Nat) (L : List DValue) (m : Nat) (h0 : 0 < step) : sbm step L (step * (m + 1)) = addB (sbm step L (step * m)) (L.getD (step * (m + 1) - 1) ZValue) := by
  have e : step * (m + 1) = step * m + (step - 1) + 1 := by rw [Nat.mul_add]; omega
  rw [e, Nat.add_sub_cancel]
  conv => lhs; simp only [sbm]
  rw [if_pos, sbm_same step L m (step - 1) (by omega)]
  rw [Nat.add_assoc, Nat.mul_add_mod, Nat.sub_add_cancel h0, Nat.mod_self]
/-- the program's way through the bounds -/
theorem implBounds (n nu d : Int) (L : List DValue) (step : Nat) (hs : 0 < step) (hn : Nn L) (h1 : One L) (hl : L.length ≤ 2000) (h2 : step ≤ 4000) :
    ∀ fuel m, step * m ≤ L.length → L.length < fuel + m →
      forG B_impl_Analyze_l6 fuel ((n, nu, d, sbm step L (step * m), [], ()), L, (step : Int), (), ((step * (m + 1) : Nat) : Int)) = some ((n, nu, d, sbm step L L.length, [], ()), L, ())
  | 0, m, h, hf => by
    exfalso
    have : m ≤ step * m := Nat.le_mul_of_pos_left m hs
    omega
  | fuel + 1, m, h, hf => by
    simp only [forG]
    unfold B_impl_Analyze_l6
    simp only
    have em : step * (m + 1) = step * m + step := by rw [Nat.mul_add, Nat.mul_one]
    by_cases hk : step * (m + 1) ≤ L.length
    · rw [br_pos (by omega)]
      have e : IntKind.i64.wrap (((step * (m + 1) : Nat) : Int) - 1) = ((step * (m + 1) - 1 : Nat) : Int) := by rw [wrap_eq (by omega) (by omega)]; omega
      have e2 : IntKind.i64.wrap (((step * (m + 1) : Nat) : Int) + (step : Int)) = ((step * (m + 1 + 1) : Nat) : Int) := by
        have : step * (m + 1 + 1) = step * (m + 1) + step := by rw [Nat.mul_add step (m + 1), Nat.mul_one]
        rw [wrap_eq (by omega) (by omega)]; omega
      have hlen := sbm_len step L (step * m)
      rw [e, e2, Int.toNat_natCast, br_pos (by omega), br_pos (by omega), implBound n nu d _ _ [] L hn h1 (sbm_mem step L _ h) (mem_getD (by omega)) (by omega), bnd_some', ← sbm_next step L m hs]
      exact implBounds n nu d L step hs hn h1 hl h2 fuel (m + 1) hk (by omega)
    · rw [br_neg (by omega)]
      have := sbm_same step L m (L.length - step * m) (by omega)
      rw [← this, show step * m + (L.length - step * m) = L.length by omega]
theorem tmod_nat (a b : Nat) : ((a : Nat) : Int).tmod (b : Int) = ((a % b : Nat) : Int) := rfl
/-- the reference's way through the values -/
theorem specBounds (v6 : DHist) (n nu : Int) (L : List DValue) (step : Nat) (hs : 0 < step) (hn : Nn L) (h1 : One L) (hl : L.length ≤ 2000) :
    F_spec_Analyze_l6 v6 (n, nu, 0, [], [], ()) L step 0 = some (v6, (n, nu, (dst L L.length : Int), sbs step L L.length, [], ()), L) := by
  unfold F_spec_Analyze_l6
  refine run_loop (fun k => (v6, (n, nu, (dst L k : Int), sbs step L k, [], ()), L, (step : Int), ((k : Nat) : Int))) L.length (fun k C hk => ?_) (fun C => ?_) (by omega)
  · have hd := dst_le L k
    have hb := sbs_len step L k
    have hm := sbs_mem step L k (by omega)
    unfold B_spec_Analyze_l6
    simp (disch := omega) only [wrap_succ, Int.toNat_natCast]
    rw [br_pos (by omega), beq_dec, br_if]
    have first : (if ((k : Nat) : Int) = 0 then some (v6, (n, nu, ((dst L k + 1 : Nat) : Int), sbs step L k, ([] : List Int), ()), L, (step : Int), (k : Int))
      else br (decide (0 ≤ IntKind.i64.wrap ((k : Int) - 1))) (br (decide (IntKind.i64.wrap ((k : Int) - 1) < (L.length : Int))) (br (decide (0 ≤ (k : Int))) (br (decide ((k : Int) < (L.length : Int)))
        (bnd (F_spec_l01Cmp ([], ()) (L.getD (IntKind.i64.wrap ((k : Int) - 1)).toNat ZValue) (L.getD k ZValue)) (fun y1 => br (y1 != 0) (some (v6, (n, nu, ((dst L k + 1 : Nat) : Int), sbs step L k, ([] : List Int), ()), L, (step : Int), (k : Int)))
          (some (v6, (n, nu, (dst L k : Int), sbs step L k, ([] : List Int), ()), L, (step : Int), (k : Int))))) none) none) none) none)
        = some (v6, (n, nu, ((dst L (k + 1) : Nat) : Int), sbs step L k, ([] : List Int), ()), L, (step : Int), (k : Int)) := by
      by_cases h0 : k = 0
      · have e : dst L (k + 1) = dst L k + 1 := by simp only [dst]; rw [if_pos (show Nw L k from Or.inl h0)]
        rw [if_pos (by omega), e]
      · rw [if_neg (by omega)]
        have e : IntKind.i64.wrap ((k : Int) - 1) = ((k - 1 : Nat) : Int) := by rw [wrap_eq (by omega) (by omega)]; omega
        rw [e, Int.toNat_natCast, br_pos (by omega), br_pos (by omega), br_pos (by omega), br_pos (by omega), scmp hn h1 (mem_getD (by omega)) (mem_getD hk), bnd_some', bne_dec, br_if]
        by_cases hc : cv (L.getD (k - 1) ZValue) (L.getD k ZValue) = 0
        · have e : dst L (k + 1) = dst L k := by simp only [dst]; rw [if_neg (by unfold Nw; rintro (h | h); exact h0 h; exact h hc)]; rfl
          rw [if_neg (fun h => h hc), e]
        · have e : dst L (k + 1) = dst L k + 1 := by simp only [dst]; rw [if_pos (show Nw L k from Or.inr hc)]
          rw [if_pos hc, e]
    rw [first, bnd_some']
    dsimp only
    have hst : (!(step : Int) == 0) = true := by simp; omega
    rw [hst, br_true]
    have add : sbs step L (k + 1) = addB (sbs step L k) (L.getD k ZValue) →
      (br (((sbs step L k).length : Int) == 0) (br (decide (0 ≤ (k : Int))) (br (decide ((k : Int) < (L.length : Int))) (br (decide ((sbs step L k).length + [L.getD k ZValue].length ≤ capN)) (C (v6, (n, nu, ((dst L (k + 1) : Nat) : Int), sbs step L k ++ [L.getD k ZValue], [], ()), L, (step : Int), IntKind.i64.wrap ((k : Int) + 1))) none) none) none)
        (br (decide (0 ≤ IntKind.i64.wrap (((sbs step L k).length : Int) - 1))) (br (decide (IntKind.i64.wrap (((sbs step L k).length : Int) - 1) < ((sbs step L k).length : Int))) (br (decide (0 ≤ (k : Int))) (br (decide ((k : Int) < (L.length : Int)))
          (bnd (F_spec_l01Cmp ([], ()) ((sbs step L k).getD (IntKind.i64.wrap (((sbs step L k).length : Int) - 1)).toNat ZValue) (L.getD k ZValue)) (fun y2 => br (y2 != 0)
            (br (decide (0 ≤ (k : Int))) (br (decide ((k : Int) < (L.length : Int))) (br (decide ((sbs step L k).length + [L.getD k ZValue].length ≤ capN)) (C (v6, (n, nu, ((dst L (k + 1) : Nat) : Int), sbs step L k ++ [L.getD k ZValue], [], ()), L, (step : Int), IntKind.i64.wrap ((k : Int) + 1))) none) none) none)
            (C (v6, (n, nu, ((dst L (k + 1) : Nat) : Int), sbs step L k, [], ()), L, (step : Int), IntKind.i64.wrap ((k : Int) + 1))))) none) none) none) none))
      = C (v6, (n, nu, ((dst L (k + 1) : Nat) : Int), sbs step L (k + 1), [], ()), L, (step : Int), ((k + 1 : Nat) : Int)) := by
      intro he
      rw [he, wrap_succ (by omega)]
      unfold addB
      rw [beq_dec, br_if]
      by_cases h0 : (sbs step L k).length = 0
      · rw [if_pos (by omega), if_pos h0, br_pos (by omega), br_pos (by omega), br_pos (by simp only [List.length_singleton]; unfold capN; omega)]
      · rw [if_neg (by omega), if_neg h0]
        have e : IntKind.i64.wrap (((sbs step L k).length : Int) - 1) = (((sbs step L k).length - 1 : Nat) : Int) := by rw [wrap_eq (by omega) (by omega)]; omega
        rw [e, Int.toNat_natCast, br_pos (by omega), br_pos (by omega), br_pos (by omega), br_pos (by omega), scmp hn h1 (hm _ (mem_getD (by omega))) (mem_getD hk), bnd_some', bne_dec, br_if]
        by_cases hc : cv ((sbs step L k).getD ((sbs step L k).length - 1) ZValue) (L.getD k ZValue) = 0
        · rw [if_neg (fun h => h hc), if_pos hc]
        · rw [if_pos hc, if_neg hc, br_pos (by omega), br_pos (by omega), br_pos (by simp only [List.length_singleton]; unfold capN; omega)]
    have ew : IntKind.i64.wrap ((k : Int) + 1) = ((k + 1 : Nat) : Int) := wrap_succ (by omega)
    have et : (((k + 1 : Nat) : Int).tmod (step : Int) != 0) = decide (¬ (k + 1) % step = 0) := by
      rw [tmod_nat, bne_dec]; congr 1; apply propext; omega
    have el : ((k : Int) != IntKind.i64.wrap ((L.length : Int) - 1)) = decide (¬ k + 1 = L.length) := by
      rw [wrap_eq (by omega) (by omega), bne_dec]; congr 1; apply propext; omega
    rw [ew] at add
    simp only [Int.toNat_natCast, ew, et, el]
    by_cases hm : (k + 1) % step = 0
    · rw [br_neg (fun h => h hm)]
      exact add (by simp only [sbs]; rw [if_pos (Or.inl hm)])
    · rw [br_pos hm]
      by_cases hlast : k + 1 = L.length
      · rw [br_neg (fun h => h hlast)]
        exact add (by simp only [sbs]; rw [if_pos (Or.inr hlast)])
      · rw [br_pos hlast]
        have e : sbs step L (k + 1) = sbs step L k := by simp only [sbs]; rw [if_neg (by rintro (h | h); exact hm h; exact hlast h)]
        rw [e]
  · unfold B_spec_Analyze_l6
    exact br_neg (Int.lt_irrefl _) _ _
end Go.Ev.T1
