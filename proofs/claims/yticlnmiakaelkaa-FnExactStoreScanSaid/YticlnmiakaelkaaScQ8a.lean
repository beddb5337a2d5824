/- StoreGet: both ways the same. -/
import Derived.Test.YticlnmiakaelkaaScQ7
import Derived.Test.YticlnmiakaelkaaScQ6
set_option linter.unusedSimpArgs false
set_option linter.unusedVariables false
namespace Go.Ev.T1
open Go Go.Proofs
theorem lstep_skip (at_ : DTime) (st : List UInt8 × Bool × List DVersion) (v : DVersion) (h : (st.2.1 = true ∧ v.1 = st.1) ∨ Later v.2.1 at_) : lstep at_ st v = st := if_pos h
theorem lstep_dead (at_ : DTime) (st : List UInt8 × Bool × List DVersion) (v : DVersion) (h : ¬ ((st.2.1 = true ∧ v.1 = st.1) ∨ Later v.2.1 at_)) (d : v.2.2.1 = true) : lstep at_ st v = (v.1, true, st.2.2) := by
  unfold lstep; rw [if_neg h, if_pos d]
theorem lstep_live (at_ : DTime) (st : List UInt8 × Bool × List DVersion) (v : DVersion) (h : ¬ ((st.2.1 = true ∧ v.1 = st.1) ∨ Later v.2.1 at_)) (d : ¬ v.2.2.1 = true) : lstep at_ st v = (v.1, true, st.2.2 ++ [v]) := by
  unfold lstep; rw [if_neg h, if_neg d]
def stL (at_ : DTime) (l : List DVersion) (i : Nat) : List UInt8 × Bool × List DVersion := (l.take i).foldl (lstep at_) ([], false, [])
theorem stL_succ (at_ : DTime) (l : List DVersion) (i : Nat) (hi : i < l.length) : stL at_ l (i + 1) = lstep at_ (stL at_ l i) (l.getD i ZVersion) := by
  unfold stL
  rw [List.take_succ_eq_append_getElem hi, List.foldl_append, getD_lt hi]; rfl
theorem stL_len (at_ : DTime) (l : List DVersion) (i : Nat) : (stL at_ l i).2.2.length ≤ l.length := by
  have := live_fold_len at_ (l.take i)
  have h2 : (l.take i).length ≤ l.length := by simp; omega
  unfold stL
  omega
theorem specLiveL (at_ : DTime) (l : List DVersion) (hl : l.length ≤ 1048576) : F_spec_l03Live_l0 at_ l [] [] false 0 = some (liveL at_ l) := by
  unfold F_spec_l03Live_l0
  have := loop_run (B := B_spec_l03Live_l0) (fun i => (at_, l, (stL at_ l i).2.2, (stL at_ l i).1, (stL at_ l i).2.1, ((i : Nat) : Int))) l.length (some (liveL at_ l)) (fun i C hi => ?_) (fun C => ?_) (((l.length : Nat) : Int).toNat + 1) 0 (Nat.zero_le _) (by simp)
  · exact this
  · have hn := stL_len at_ l i
    rw [stL_succ at_ l i hi]
    unfold B_spec_l03Live_l0
    generalize stL at_ l i = st at hn ⊢
    obtain ⟨sn, sm, out⟩ := st
    generalize hv : l.getD i ZVersion = v
    simp (disch := omega) only [wrap_succ, Int.toNat_natCast, hv, specTime, beq_dec]
    have hn : out.length ≤ l.length := hn
    have tl := @tcmp_pos v.2.1 at_
    have hcap : out.length + [v].length ≤ capN := by simp; unfold capN; omega
    rw [br_pos (show ((i : Nat) : Int) < l.length by omega)]
    cases sm with
    | true =>
      rw [brT, br_pos (by omega), br_pos (by omega)]
      by_cases c1 : v.1 = sn
      · rw [br_pos c1, lstep_skip _ _ _ (.inl ⟨rfl, c1⟩)]
      · rw [br_neg c1, br_pos (by omega), br_pos (by omega)]
        show br (decide (tcmp v.2.1 at_ > 0)) _ _ = _
        by_cases c2 : Later v.2.1 at_
        · rw [br_pos (tl.2 c2), lstep_skip _ _ _ (.inr c2)]
        · have hno : ¬ (((sn, true, out).2.1 = true ∧ v.1 = (sn, true, out).1) ∨ Later v.2.1 at_) := by
            rintro (⟨_, h⟩ | h)
            · exact c1 h
            · exact c2 h
          rw [br_neg (fun h => c2 (tl.1 h)), br_pos (by omega), br_pos (by omega), br_pos (by omega), br_pos (by omega)]
          by_cases d : v.2.2.1 = true
          · rw [lstep_dead _ _ _ hno d, d]; rfl
          · have d' : v.2.2.1 = false := by simpa using d
            rw [lstep_live _ _ _ hno d, d']
            show br true _ _ = _
            rw [brT, br_pos (by omega), br_pos (by omega), br_pos hcap]
    | false =>
      rw [brF, br_pos (by omega), br_pos (by omega)]
      show br (decide (tcmp v.2.1 at_ > 0)) _ _ = _
      by_cases c2 : Later v.2.1 at_
      · rw [br_pos (tl.2 c2), lstep_skip _ _ _ (.inr c2)]
      · have hno : ¬ (((sn, false, out).2.1 = true ∧ v.1 = (sn, false, out).1) ∨ Later v.2.1 at_) := by
          rintro (⟨h, _⟩ | h)
          · cases h
          · exact c2 h
        rw [br_neg (fun h => c2 (tl.1 h)), br_pos (by omega), br_pos (by omega), br_pos (by omega), br_pos (by omega)]
        by_cases d : v.2.2.1 = true
        · rw [lstep_dead _ _ _ hno d, d]; rfl
        · have d' : v.2.2.1 = false := by simpa using d
          rw [lstep_live _ _ _ hno d, d']
          show br true _ _ = _
          rw [brT, br_pos (by omega), br_pos (by omega), br_pos hcap]
  · unfold B_spec_l03Live_l0
    rw [br_neg (by simp)]
    show some (stL at_ l l.length).2.2 = _
    unfold stL liveL; rw [List.take_length]
end Go.Ev.T1
