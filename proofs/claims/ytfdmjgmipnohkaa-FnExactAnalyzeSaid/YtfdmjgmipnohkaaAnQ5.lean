/- Analyze: whether the values go together, both ways. -/
import Derived.Test.YtfdmjgmipnohkaaAnQ4
set_option linter.unusedSimpArgs false
set_option linter.unusedVariables false
set_option maxRecDepth 100000
namespace Go.Ev.T1
open Go Go.Proofs
/-- in order, and not null -/
def Nn (l : List DValue) : Prop := ∀ v ∈ l, VOK v ∧ ¬ v.1 = 0
theorem Nn.at {l : List DValue} (h : Nn l) {i : Nat} (hi : i < l.length) : VOK (l.getD i ZValue) ∧ ¬ (l.getD i ZValue).1 = 0 := h _ (mem_getD hi)
theorem specLike (a b : DValue) (na : ¬ a.1 = 0) (nb : ¬ b.1 = 0) : Ans (F_spec_l01Like a b) (some true) (some false) (cl a = cl b) := by
  unfold F_spec_l01Like
  rw [beq_dec, br_neg na, beq_dec, br_neg nb, beq_dec]
  refine ans_iff (ans_br_yes (P := Num a ∧ Num b) fun h => ?_) ?_
  · rw [specNumber, bnd_some']
    refine ans_br_no' fun h1 => ?_
    rw [specNumber, bnd_some']
    exact ans_decide
  · unfold cl Num
    constructor
    · rintro (h | ⟨h1, h2⟩)
      · rw [h]
      · split <;> split <;> omega
    · intro h
      split at h <;> split at h <;> omega
def Alike (l : List DValue) : Prop := ∀ i, i < l.length → ∀ k, k < i → cl (l.getD i ZValue) = cl (l.getD k ZValue)
theorem specAlike (l : List DValue) (hl : l.length ≤ 2000) (hn : Nn l) : Ans (F_spec_l10Alike l) (some true) (some false) (Alike l) := by
  unfold F_spec_l10Alike F_spec_l10Alike_l0
  refine ans_bnd_end (a := .inl ()) (b := .inr false) (ans_loop (fun i => (l, ((i : Nat) : Int))) l.length (fun i => ∀ k, k < i → cl (l.getD i ZValue) = cl (l.getD k ZValue)) (fun i C hi hb => ?_) (fun C _ => ?_) (by omega)) rfl rfl
  · unfold B_spec_l10Alike_l0
    simp (disch := omega) only [wrap_succ, Int.toNat_natCast]
    refine ans_chk (by omega) ?_
    unfold F_spec_l10Alike_l2
    refine ans_bnd_end (a := .inl (l, (i : Int))) (b := .inr false) (ans_loop (fun k => (l, (i : Int), ((k : Nat) : Int))) i (fun k => cl (l.getD i ZValue) = cl (l.getD k ZValue)) (fun k C hk hb => ?_) (fun C _ => ?_) (by omega)) ?_ rfl
    · unfold B_spec_l10Alike_l2
      simp (disch := omega) only [wrap_succ, Int.toNat_natCast]
      refine ans_chk (by omega) (ans_chk (by omega) (ans_chk (by omega) (ans_chk (by omega) (ans_chk (by omega) ?_))))
      exact ans_bnd_end (specLike _ _ (hn.at hi).2 (hn.at (by omega)).2) rfl rfl
    · unfold B_spec_l10Alike_l2
      exact br_neg (Int.lt_irrefl _) _ _
    · show C _ = C _
      rw [wrap_succ (by omega)]
  · unfold B_spec_l10Alike_l0
    exact br_neg (Int.lt_irrefl _) _ _
theorem implAlike (rs : List DRow) (c : Int) (v6 : DHist) (l : List DValue) (hl : l.length ≤ 2000) (hn : Nn l) :
    Ans (F_impl_Analyze_l2 rs c v6 l l.length 0) (some (.inl (rs, c, v6, l))) (some (.inr ((0, 0, 0, [], [], ()), 2))) (Alike l) := by
  unfold F_impl_Analyze_l2
  refine ans_iff (ans_loop (fun i => (rs, c, v6, l, (l.length : Int), ((i : Nat) : Int))) l.length (fun i => cl (l.getD 0 ZValue) = cl (l.getD i ZValue)) (fun i C hi hb => ?_) (fun C _ => ?_) (by omega)) ?_
  · unfold B_impl_Analyze_l2
    simp (disch := omega) only [wrap_succ, Int.toNat_natCast]
    refine ans_chk (by omega) (ans_chk (by omega) (ans_chk (by omega) (ans_chk (by omega) (ans_chk (by omega) ?_))))
    have h0 := hn.at (l := l) (i := 0) (by omega)
    have h1 := hn.at hi
    rw [show (0 : Int).toNat = 0 from rfl, implCompare _ _ h0.1 h1.1 h0.2 h1.2, bnd_some']
    constructor
    · intro h
      rw [if_pos h]; rfl
    · intro h
      rw [if_neg h]; rfl
  · unfold B_impl_Analyze_l2
    exact br_neg (Int.lt_irrefl _) _ _
  · constructor
    · intro h i hi k hk
      rw [← h i hi, ← h k (by omega)]
    · intro h i hi
      by_cases h0 : i = 0
      · subst h0; rfl
      · exact (h i hi 0 (by omega)).symm
end Go.Ev.T1
