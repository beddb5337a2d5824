/- StoreGet: both ways the same. -/
import Derived.Test.YticlnmiakaelkaaSgQ7
import Derived.Test.YticlnmiakaelkaaSgQ6
set_option linter.unusedSimpArgs false
set_option linter.unusedVariables false
namespace Go.Ev.T1
open Go Go.Proofs
theorem lstep_skip (at_ : DTime) (st : List UInt8 × Bool × List DVersion) (v : DVersion) (h : (st.2.1 = true ∧ v.1 = st.1) ∨ Later v.2.1 at_) : lstep at_ st v = st := if_pos h
theorem lstep_dead (at_ : DTime) (st : List UInt8 × Bool × List DVersion) (v : DVersion) (h : ¬ ((st.2.1 = true ∧ v.1 = st.1) ∨ Later v.2.1 at_)) (d : v.2.2.1 = true) : lstep at_ st v = (v.1, true, st.2.2) := by
  unfold lstep; rw [if_neg h, if_pos d]
theorem lstep_live (at_ : DTime) (st : List UInt8 × Bool × List DVersion) (v : DVersion) (h : ¬ ((st.2.1 = true ∧ v.1 = st.1) ∨ Later v.2.1 at_)) (d : ¬ v.2.2.1 = true) : lstep at_ st v = (v.1, true, st.2.2 ++ [v]) := by
  unfold lstep; rw [if_neg h, if_neg d]
def stL (at_ : DTime) (l : List DVersion) (i : Nat) : List UInt8 × Bool × List DVersion := (l.take i).foldl (lstep at_) ([], false, [])
theorem stL_succ (at_ : DTime) (l : List DVersion) (i : Nat) (hi : i < l.length) : stL at_ l (i + 1) = lstep at_ (stL at_ l i) (l.getD i ZVersion) := by
  unfold stL
  rw [List.take_succ_eq_append_getElem hi, List.foldl_append, getD_lt hi]; rfl
theorem stL_len (at_ : DTime) (l : List DVersion) (i : Nat) : (stL at_ l i).2.2.length ≤ l.length := by
  have := live_fold_len at_ (l.take i)
  have h2 : (l.take i).length ≤ l.length := by simp; omega
  unfold stL
  omega
theorem specLiveL (at_ : DTime) (l : List DVersion) (hl : l.length ≤ 1048576) : F_spec_l03Live_l0 at_ l [] [] false 0 = some (liveL at_ l) := by
  unfold F_spec_l03Live_l0
  have := loop_run (B := B_spec_l03Live_l0) (fun i => (at_, l, (stL at_ l i).2.2, (stL at_ l i).1, (stL at_ l i).2.1, ((i : Nat) : Int))) l.length (some (liveL at_ l)) (fun i C hi => ?_) (fun C => ?_) (((l.length : Nat) : Int).toNat + 1) 0 (Nat.zero_le _) (by simp)
  · exact this
  · have hn := stL_len at_ l i
    rw [stL_succ at_ l i hi]
    unfold B_spec_l03Live_l0
    generalize stL at_ l i = st at hn ⊢
    obtain ⟨sn, sm, out⟩ := st
    generalize hv : l.getD i ZVersion = v
    simp (disch := omega) only [wrap_succ, Int.toNat_natCast, hv, specTime, beq_dec]
    have hn : out.length ≤ l.length := hn
    have tl := @tcmp_pos v.2.1 at_
    have hcap : out.length + [v].length ≤ capN := by simp; unfold capN; omega
    rw [br_pos (show ((i : Nat) : Int) < l.length by omega)]
    cases sm with
    | true =>
      rw [brT, br_pos (by omega), br_pos (by omega)]
      by_cases c1 : v.1 = sn
      · rw [br_pos c1, lstep_skip _ _ _ (.inl ⟨rfl, c1⟩)]
      · rw [br_neg c1, br_pos (by omega), br_pos (by omega)]
        show br (decide (tcmp v.2.1 at_ > 0)) _ _ = _
        by_cases c2 : Later v.2.1 at_
        · rw [br_pos (tl.2 c2), lstep_skip _ _ _ (.inr c2)]
        · have hno : ¬ (((sn, true, out).2.1 = true ∧ v.1 = (sn, true, out).1) ∨ Later v.2.1 at_) := by
            rintro (⟨_, h⟩ | h)
            · exact c1 h
            · exact c2 h
          rw [br_neg (fun h => c2 (tl.1 h)), br_pos (by omega), br_pos (by omega), br_pos (by omega), br_pos (by omega)]
          by_cases d : v.2.2.1 = true
          · rw [lstep_dead _ _ _ hno d, d]; rfl
          · have d' : v.2.2.1 = false := by simpa using d
            rw [lstep_live _ _ _ hno d, d']
            show br true _ _ = _
            rw [brT, br_pos (by omega), br_pos (by omega), br_pos hcap]
    | false =>
      rw [brF, br_pos (by omega), br_pos (by omega)]
      show br (decide (tcmp v.2.1 at_ > 0)) _ _ = _
      by_cases c2 : Later v.2.1 at_
      · rw [br_pos (tl.2 c2), lstep_skip _ _ _ (.inr c2)]
      · have hno : ¬ (((sn, false, out).2.1 = true ∧ v.1 = (sn, false, out).1) ∨ Later v.2.1 at_) := by
          rintro (⟨h, _⟩ | h)
          · cases h
          · exact c2 h
        rw [br_neg (fun h => c2 (tl.1 h)), br_pos (by omega), br_pos (by omega), br_pos (by omega), br_pos (by omega)]
        by_cases d : v.2.2.1 = true
        · rw [lstep_dead _ _ _ hno d, d]; rfl
        · have d' : v.2.2.1 = false := by simpa using d
          rw [lstep_live _ _ _ hno d, d']
          show br true _ _ = _
          rw [brT, br_pos (by omega), br_pos (by omega), br_pos hcap]
  · unfold B_spec_l03Live_l0
    rw [br_neg (by simp)]
    show some (stL at_ l l.length).2.2 = _
    unfold stL liveL; rw [List.take_length]
def ZV : DVersion := ([], (0, 0, ()), false, [], ())
def ansOf (o : Option DVersion) : DVersion × Bool × Int := match o with
  | none => (ZV, false, 0)
  | some v => (v, true, 0)
theorem specFirst (k : List UInt8) (l : List DVersion) (hl : l.length ≤ 1048576) : ∀ n i, i ≤ l.length → l.length < n + i →
    forG B_spec_StoreGet_l0 n (k, ZV, l, ((i : Nat) : Int)) = some (match firstOf k (l.drop i) with | none => .inl ZV | some v => .inr (v, true, 0))
  | 0, i, h1, h2 => absurd h1 (by omega)
  | n + 1, i, h1, h2 => by
    simp only [forG]
    have ih := specFirst k l hl n (i + 1)
    generalize forG B_spec_StoreGet_l0 n = C at ih ⊢
    unfold B_spec_StoreGet_l0
    by_cases hi : i < l.length
    · have ed : l.drop i = l.getD i ZVersion :: l.drop (i + 1) := by rw [getD_lt hi, List.getElem_cons_drop]
      rw [ed, firstOf]
      simp (disch := omega) only [wrap_succ, Int.toNat_natCast, beq_dec]
      rw [br_pos (by omega), br_pos (by omega), br_pos (by omega)]
      by_cases c : (l.getD i ZVersion).1 = k
      · rw [br_pos c, br_pos (by omega), br_pos (by omega), if_pos c]
      · rw [br_neg c, if_neg c]
        exact ih (by omega) (by omega)
    · have : i = l.length := by omega
      subst this
      rw [br_neg (by simp), List.drop_length]
      rfl
def toldO (k : List UInt8) (at_ : DTime) : List DVersion → Option (Option DVersion)
  | [] => none
  | v :: l => if v.1 = k ∧ ¬ Later v.2.1 at_ then some (if v.2.2.1 = true then none else some v) else toldO k at_ l
theorem told_join (k : List UInt8) (at_ : DTime) : ∀ l, toldR k at_ l = (toldO k at_ l).join
  | [] => rfl
  | v :: l => by
    unfold toldR toldO
    by_cases h : v.1 = k ∧ ¬ Later v.2.1 at_
    · rw [if_pos h, if_pos h]; rfl
    · rw [if_neg h, if_neg h]; exact told_join k at_ l
theorem implTold (k : List UInt8) (at_ : DTime) (l : List DVersion) (hl : l.length ≤ 1048576) : ∀ n i, i ≤ l.length → l.length < n + i →
    forG B_impl_told_l0 n (k, at_, ZV, l, (l.length : Int), ((i : Nat) : Int)) = some (match toldO k at_ (l.drop i) with | none => .inl ZV | some none => .inr (ZV, false) | some (some v) => .inr (v, true))
  | 0, i, h1, h2 => absurd h1 (by omega)
  | n + 1, i, h1, h2 => by
    simp only [forG]
    have ih := implTold k at_ l hl n (i + 1)
    generalize forG B_impl_told_l0 n = C at ih ⊢
    unfold B_impl_told_l0
    by_cases hi : i < l.length
    · have ed : l.drop i = l.getD i ZVersion :: l.drop (i + 1) := by rw [getD_lt hi, List.getElem_cons_drop]
      rw [ed, toldO]
      simp (disch := omega) only [wrap_succ, Int.toNat_natCast, beq_dec, implTime]
      have tl := @tcmp_pos (l.getD i ZVersion).2.1 at_
      rw [br_pos (by omega), br_pos (by omega), br_pos (by omega)]
      by_cases c : (l.getD i ZVersion).1 = k
      · rw [br_pos c]
        show br (decide (tcmp (l.getD i ZVersion).2.1 at_ ≤ 0)) _ _ = _
        by_cases c2 : Later (l.getD i ZVersion).2.1 at_
        · have := tl.2 c2
          rw [br_neg (by omega), if_neg (show ¬ ((l.getD i ZVersion).1 = k ∧ ¬ Later (l.getD i ZVersion).2.1 at_) from fun h => h.2 c2)]
          exact ih (by omega) (by omega)
        · have : ¬ tcmp (l.getD i ZVersion).2.1 at_ > 0 := fun h => c2 (tl.1 h)
          rw [br_pos (by omega), if_pos (show (l.getD i ZVersion).1 = k ∧ ¬ Later (l.getD i ZVersion).2.1 at_ from ⟨c, c2⟩)]
          by_cases d : (l.getD i ZVersion).2.2.1 = true
          · rw [d, brT, if_pos rfl]; rfl
          · have d' : (l.getD i ZVersion).2.2.1 = false := by simpa using d
            rw [d', brF, if_neg (by simp)]
      · rw [br_neg c, if_neg (show ¬ ((l.getD i ZVersion).1 = k ∧ ¬ Later (l.getD i ZVersion).2.1 at_) from fun h => c h.1)]
        exact ih (by omega) (by omega)
    · have : i = l.length := by omega
      subst this
      rw [br_neg (by simp), List.drop_length]
      rfl
theorem told_mem (k : List UInt8) (at_ : DTime) : ∀ l v, toldR k at_ l = some v → v ∈ l
  | [], v, h => by simp [toldR] at h
  | w :: l, v, h => by
    unfold toldR at h
    split at h
    · split at h
      · cases h
      · simp at h; simp [h]
    · exact List.mem_cons_of_mem _ (told_mem k at_ l v h)
theorem implTold0 (k : List UInt8) (at_ : DTime) (l : List DVersion) (hl : l.length ≤ 1048576) : F_impl_told l k at_ = some ((ansOf (toldR k at_ l)).1, (ansOf (toldR k at_ l)).2.1) := by
  have h := implTold k at_ l hl (((l.length : Nat) : Int).toNat + 1) 0 (Nat.zero_le _) (by simp)
  have h : F_impl_told_l0 k at_ ([], (0, 0, ()), false, [], ()) l (l.length : Int) 0 = _ := h
  unfold F_impl_told
  rw [h, bnd_some', List.drop_zero, told_join]
  cases toldO k at_ l with
  | none => rfl
  | some o => cases o <;> rfl
theorem get_same (s : DStore) (hs : Sm_Store 1048576 s) (k : List UInt8) (at_ : DTime) : ∃ r, F_spec_StoreGet s k at_ = some r ∧ F_impl_StoreGet s k at_ = some r ∧ (r.1 ∈ rawAll s ∨ r.1 = ZV) := by
  unfold F_spec_StoreGet F_impl_StoreGet
  by_cases ok : OKP s
  · rw [(specOK s hs).1 ok, (implOK s hs).1 ok, bnd_some', bnd_some', Bool.not_true, brF, brF]
    by_cases tk : TimeP at_
    · rw [(specTimeOK at_).1 tk, (implTimeOK at_).1 tk, bnd_some', bnd_some', Bool.not_true, brF, brF, specTime, implTime, bnd_some', bnd_some']
      by_cases c : tcmp at_ s.2.2.1 < 0
      · rw [br_pos c, br_pos c]
        exact ⟨_, rfl, rfl, .inr rfl⟩
      · rw [br_neg c, br_neg c]
        have n4 := ok.2.2.1
        have n12 := ok.2.1
        obtain ⟨b1, b2⟩ := okp_srt ok.2.2.2.1 ok.2.2.2.2.1
        have hst := ok.2.2.2.2.2
        have hsp := (both_strict s b1 b2).2 hst
        have el : (stab ahead (rawAll s)).length = (rawAll s).length := (stab_perm _).length_eq
        have e1 := specAll s (by omega) (by omega)
        have e2 := implAll s (by omega) (by omega)
        rw [both_all s hsp hst] at e1
        have e3 : F_spec_l03Live s at_ = some (liveL at_ (stab ahead (rawAll s))) := by
          unfold F_spec_l03Live
          rw [bnd_eq e1, bnd_eq (specLiveL at_ _ (by omega))]
        have hll : (liveL at_ (stab ahead (rawAll s))).length ≤ 1048576 := by
          have := live_fold_len at_ (stab ahead (rawAll s))
          unfold liveL; omega
        have e4 := specFirst k (liveL at_ (stab ahead (rawAll s))) hll (((liveL at_ (stab ahead (rawAll s))).length : Int).toNat + 1) 0 (Nat.zero_le _) (by simp)
        have e4 : F_spec_StoreGet_l0 k ([], (0, 0, ()), false, [], ()) (liveL at_ (stab ahead (rawAll s))) 0 = _ := e4
        have e5 := implTold0 k at_ (stab ahead (rawAll s)) (by omega)
        rw [bnd_eq e3, e4, bnd_some', List.drop_zero, liveL_eq, live_told at_ k _ none hst (by simp), bnd_eq e2, bnd_eq e5]
        refine ⟨ansOf (toldR k at_ (stab ahead (rawAll s))), ?_, ?_, ?_⟩
        · cases toldR k at_ (stab ahead (rawAll s)) <;> rfl
        · cases toldR k at_ (stab ahead (rawAll s)) <;> rfl
        · cases ht : toldR k at_ (stab ahead (rawAll s)) with
          | none => exact .inr rfl
          | some v =>
            left
            have : v ∈ stab ahead (rawAll s) := told_mem k at_ _ v ht
            exact (stab_perm _).mem_iff.1 this
    · rw [(specTimeOK at_).2 tk, (implTimeOK at_).2 tk, bnd_some', bnd_some', Bool.not_false, brT, brT]
      exact ⟨_, rfl, rfl, .inr rfl⟩
  · rw [(specOK s hs).2 ok, (implOK s hs).2 ok, bnd_some', bnd_some', Bool.not_false, brT, brT]
    exact ⟨_, rfl, rfl, .inr rfl⟩
end Go.Ev.T1
