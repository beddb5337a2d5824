/- Analyze: the reference's and the program's answers; the law. -/
import Derived.Test.YtfdmjgmipnohkaaAnQA
import Derived.Test.YtfdmjgmipnohkaaAnMk
set_option linter.unusedSimpArgs false
set_option linter.unusedVariables false
set_option maxRecDepth 100000
namespace Go.Ev.T1
open Go Go.Proofs
theorem rngNat (n : Nat) (h : n ≤ 1048576) : Rng .i64 (n : Int) := by
  unfold Rng
  simp only [Lit.wf, Bool.and_eq_true, decide_eq_true_eq]
  constructor
  · show (-9223372036854775808 : Int) ≤ n; omega
  · show (n : Int) ≤ 9223372036854775807; omega
theorem vals_mem {col : Int} {rs : List DRow} {v : DValue} (h : v ∈ vals col rs) : ∃ j, j < rs.length ∧ v = vat col (rs.getD j ZRow) ∧ ¬ v.1 = 0 := by
  unfold vals at h
  obtain ⟨h1, h2⟩ := List.mem_filter.1 h
  obtain ⟨r, hr, rfl⟩ := List.mem_map.1 h1
  obtain ⟨j, hj, rfl⟩ := List.mem_iff_getElem.1 hr
  exact ⟨j, hj, by simp [List.getD_eq_getElem?_getD, hj], by simpa using h2⟩
def ZH : DHist := (0, 0, 0, [], [], ())
theorem within (c : Int) : F_impl_kWithin c 1 20 = some (decide (1 ≤ c ∧ c ≤ 20)) := by
  unfold F_impl_kWithin
  by_cases h : c ≥ 1
  · rw [br_pos h]; congr 1; by_cases g : c ≤ 20
    · rw [decide_eq_true g, decide_eq_true ⟨h, g⟩]
    · rw [decide_eq_false g, decide_eq_false (fun x => g x.2)]
  · rw [br_neg h, decide_eq_false (fun x => h x.1)]
theorem Nn.stab {l : List DValue} (h : Nn l) : Nn (stab lv l) := fun v hv => h v ((stab_mem l v).1 hv)
theorem One.stab {l : List DValue} (h : One l) : One (stab lv l) := fun a ha b hb => h a ((stab_mem l a).1 ha) b ((stab_mem l b).1 hb)
theorem step_eq (n c : Nat) (hn : n ≤ 2000) (h1 : 1 ≤ c) (h2 : c ≤ 20) : IntKind.i64.wrap ((IntKind.i64.wrap (IntKind.i64.wrap ((n : Int) + (c : Int)) - 1)).tdiv (c : Int)) = (((n + c - 1) / c : Nat) : Int) := by
  have e : ((n : Int) + (c : Int)) - 1 = ((n + c - 1 : Nat) : Int) := by omega
  have hle : (n + c - 1) / c ≤ n + c - 1 := Nat.div_le_self _ _
  rw [wrap_eq (x := (n : Int) + (c : Int)) (by omega) (by omega), wrap_eq (x := (n : Int) + (c : Int) - 1) (by omega) (by omega), e]
  show IntKind.i64.wrap (((n + c - 1) / c : Nat) : Int) = _
  generalize (n + c - 1) / c = q at hle ⊢
  rw [wrap_eq (by omega) (by omega)]
theorem analyze_same (rs : List DRow) (hr : rs.length ≤ 1048576 ∧ ∀ y ∈ rs, Sm_Row 1048576 y) (b c : Int) :
    ∃ h : DHist × Int, F_spec_Analyze rs b c = some h ∧ F_impl_Analyze rs b c = some h ∧ Sm_Hist 1048576 h.1 := by
  have zh : Sm_Hist 1048576 ZH := ⟨rngNat 0 (by omega), rngNat 0 (by omega), rngNat 0 (by omega), ⟨by simp [ZH], fun y h => by simp [ZH] at h⟩, ⟨by simp [ZH], fun y h => by simp [ZH] at h⟩⟩
  unfold F_spec_Analyze F_impl_Analyze
  rw [within, bnd_some']
  by_cases hb : b < 0
  · refine ⟨(ZH, 1), ?_, ?_, zh⟩
    · rw [br_pos hb, br_if]; split <;> rfl
    · rw [br_pos hb]; rfl
  rw [br_neg hb, br_neg hb]
  by_cases hl : (rs.length : Int) > 2000
  · refine ⟨(ZH, 1), ?_, ?_, zh⟩
    · rw [br_pos hl]; rfl
    · rw [br_pos hl]; rfl
  rw [br_neg hl, br_neg hl]
  by_cases hc : 1 ≤ c ∧ c ≤ 20
  case neg =>
    refine ⟨(ZH, 1), ?_, ?_, zh⟩
    · by_cases h1 : c < 1
      · rw [br_pos h1]; rfl
      · rw [br_neg h1, br_pos (by omega)]; rfl
    · rw [decide_eq_false hc]; rfl
  rw [br_neg (show ¬ c < 1 by omega), br_neg (show ¬ c > 20 by omega), decide_eq_true hc, show (!true) = false from rfl, br_false]
  have hs : Small rs := fun r h v hv => ((hr.2 r h).2 v hv).2.2.2
  have s0 := specL0 rs b c ((0, 0, 0, [], [], ()) : T27.den) ((0, 0, 0, [], [], ()) : T27.den) rs.length (by omega) (by omega) hs
  have i0 := implL0 rs b c ((0, 0, 0, [], [], ()) : T27.den) (by omega) (by omega) hs
  by_cases hp : ∀ j, j < rs.length → RowP b (rs.getD j ZRow)
  case neg =>
    refine ⟨(ZH, 1), ?_, ?_, zh⟩
    · rw [s0.2 hp]; rfl
    · rw [i0.2 hp]; rfl
  rw [s0.1 hp, i0.1 hp, bnd_some', bnd_some']
  dsimp only [onSum]
  have hvl := vals_len b rs
  have hn : Nn (vals b rs) := fun v hv => by
    obtain ⟨j, hj, rfl, h0⟩ := vals_mem hv
    exact ⟨(hp j hj).2, h0⟩
  have hsv : ∀ v ∈ vals b rs, Sm_Value 1048576 v := fun v hv => by
    obtain ⟨j, hj, rfl, h0⟩ := vals_mem hv
    exact (hr.2 _ (mem_getD hj)).2 _ (mem_getD (by have := (hp j hj).1; omega))
  generalize hlv : vals b rs = l at *
  have s1 := specAlike l (by omega) hn
  have i1 := implAlike rs c ((0, 0, 0, [], [], ()) : T27.den) l (by omega) hn
  by_cases ha : Alike l
  case neg =>
    refine ⟨(ZH, 2), ?_, ?_, zh⟩
    · rw [s1.2 ha]; rfl
    · rw [i1.2 ha]; rfl
  rw [s1.1 ha, i1.1 ha, bnd_some', bnd_some', show (!true) = false from rfl, br_false]
  dsimp only [onSum]
  have h1 := ha.one
  rw [specSorted c _ _ l (by omega) hn h1, bnd_some', br_pos (by unfold capN; omega), implSorted hn h1, bnd_some']
  dsimp only
  obtain ⟨cn, rfl⟩ : ∃ cn : Nat, c = (cn : Int) := ⟨c.toNat, by omega⟩
  have hL : (stab lv l).length = l.length := stab_length l
  have hsL := stab_srt lv_weak l
  have hnL := hn.stab
  have h1L := h1.stab
  have hsvL : ∀ v ∈ stab lv l, Sm_Value 1048576 v := fun v hv => hsv v ((stab_mem l v).1 hv)
  generalize hLe : stab lv l = L at *
  have hst : (!(cn : Int) == 0) = true := by simp; omega
  have hnu : IntKind.i64.wrap ((rs.length : Int) - (L.length : Int)) = (rs.length : Int) - (l.length : Int) := by rw [wrap_eq (by omega) (by omega), hL]
  rw [hst, br_true, step_eq L.length cn (by omega) (by omega) (by omega), hnu, beq_dec, br_if]
  have hnr : Rng .i64 ((rs.length : Int) - (l.length : Int)) := by
    have := rngNat (rs.length - l.length) (by omega)
    rwa [show ((rs.length - l.length : Nat) : Int) = (rs.length : Int) - (l.length : Int) by omega] at this
  by_cases h0 : L.length = 0
  · refine ⟨(((rs.length : Int), (rs.length : Int) - (l.length : Int), 0, [], [], ()), 0), ?_, ?_, ⟨rngNat _ hr.1, hnr, rngNat 0 (by omega), ⟨Nat.zero_le _, fun y h => by cases h⟩, ⟨Nat.zero_le _, fun y h => by cases h⟩⟩⟩
    · have : L = [] := List.length_eq_zero_iff.1 h0
      subst this
      rfl
    · rw [if_pos (by omega)]
  rw [if_neg (by omega)]
  have hstep : 0 < (L.length + cn - 1) / cn := Nat.div_pos (by omega) (by omega)
  have hstep2 : (L.length + cn - 1) / cn ≤ 4000 := Nat.le_trans (Nat.div_le_self _ _) (by omega)
  generalize hstn : (L.length + cn - 1) / cn = step at *
  rw [specBounds _ _ _ L step hstep hnL h1L (by omega), bnd_some', implDistinct _ _ _ L hnL h1L (by omega), bnd_some']
  dsimp only
  have hbl := sbs_len step L L.length
  have hbm := sbs_mem step L L.length (Nat.le_refl _)
  have hbs := (sbs_srt step hsL L.length (Nat.le_refl _)).1
  have hml := sbm_len step L L.length
  have hmm := sbm_mem step L L.length (Nat.le_refl _)
  have hmax : max 1 (step : Int) = (step : Int) := by omega
  have hib := implBounds rs.length ((rs.length : Int) - (l.length : Int)) (dst L L.length) L step hstep hnL h1L (by omega) hstep2 (L.length + 1) 0 (by omega) (by omega)
  rw [Nat.mul_zero, Nat.zero_add, Nat.mul_one] at hib
  have hlast : IntKind.i64.wrap ((L.length : Int) - 1) = ((L.length - 1 : Nat) : Int) := by rw [wrap_eq (by omega) (by omega)]; omega
  rw [hst, br_true, step_eq L.length cn (by omega) (by omega) (by omega), hstn, hmax]
  unfold F_impl_Analyze_l6
  rw [show ((rs.length : Int), (rs.length : Int) - (l.length : Int), ((dst L L.length : Nat) : Int), ([] : List DValue), ([] : List Int), ()) = ((rs.length : Int), (rs.length : Int) - (l.length : Int), ((dst L L.length : Nat) : Int), sbm step L 0, ([] : List Int), ()) from rfl, hib, bnd_some']
  dsimp only
  rw [hlast, Int.toNat_natCast, br_pos (by omega), br_pos (by omega), implBound _ _ _ _ _ [] L hnL h1L hmm (mem_getD (by omega)) (by omega), bnd_some', ← sbs_last step L (by omega)]
  dsimp only
  rw [specCounts _ _ _ _ L _ hnL h1L (by omega) (by omega) hsL hbs hbm, bnd_some', implCounts _ _ _ L _ hnL h1L (by omega) (by omega) hsL hbs hbm, bnd_some']
  refine ⟨_, rfl, rfl, rngNat _ hr.1, hnr, rngNat _ ?_, ⟨?_, fun y hy => hsvL y (hbm y hy)⟩, ⟨?_, fun y hy => ?_⟩⟩
  · have := dst_le L L.length; omega
  · show (sbs step L L.length).length ≤ _; omega
  · show (cnts L _ _).length ≤ _; rw [cnts_len]; omega
  · have hy' : y ∈ cnts L (sbs step L L.length) (sbs step L L.length).length := hy
    unfold cnts at hy'
    obtain ⟨i, _, rfl⟩ := List.mem_map.1 hy'
    unfold cnt
    refine rngNat _ ?_
    have := pf_le L ((sbs step L L.length).getD i ZValue)
    omega
theorem law_Analyze (a : List DLRow) (ha : a.length ≤ maxLen ∧ ∀ y ∈ a, Sm_LRow maxLen y) (b c : Int) : F_laws_FnExactAnalyze a b c = some true := by
  unfold F_laws_FnExactAnalyze
  obtain ⟨r, hr, h⟩ := sz_RowS a 1048576 (by decide) (by decide) ha
  rw [hr, bnd_some']
  rcases h with rfl | ⟨r0, r1, hs⟩
  · exact br_pos (by decide) _ _
  rw [br_neg (by omega)]
  have hs' : a.length ≤ 1048576 ∧ ∀ y ∈ a, Sm_Row 1048576 y := hs
  obtain ⟨g, h1, h2, h3⟩ := analyze_same a hs' b c
  obtain ⟨k1, x1, e1, g1, g1'⟩ := mk_RowS (a : List DRow) 1 hs' (by decide) (by decide)
  obtain ⟨k2, x2, y2, e2, f2, g2, g2'⟩ := mkx_Hist g.1 1 h3 (by decide) (by decide)
  have n1 : decide (k1 < 0) = false := decide_eq_false (by omega)
  have n2 : decide (k2 < 0) = false := decide_eq_false (by omega)
  simp only [to_RowS a hs, bnd_some', h1, h2, eq_Hist g.1 h3, eq_RowS (a : List DRow) hs', e1, e2, f2, n1, n2, beq_self_eq_true, bne_self_eq_false, Bool.not_true, br_false]
end Go.Ev.T1
