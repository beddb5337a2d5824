/- What is told of a key: the first that is not too late; the live ones. -/
import Derived.Test.YticlnmiakaelkaaScQ4
set_option linter.unusedSimpArgs false
set_option linter.unusedVariables false
namespace Go.Ev.T1
open Go Go.Proofs
def tooLate (at_ : DTime) (v : DVersion) : Bool := decide (Later v.2.1 at_)
/-- the fold that the live list is made by -/
def lstep (at_ : DTime) (st : List UInt8 × Bool × List DVersion) (v : DVersion) : List UInt8 × Bool × List DVersion :=
  if (st.2.1 = true ∧ v.1 = st.1) ∨ Later v.2.1 at_ then st else (v.1, true, if v.2.2.1 = true then st.2.2 else st.2.2 ++ [v])
def liveL (at_ : DTime) (l : List DVersion) : List DVersion := (l.foldl (lstep at_) ([], false, [])).2.2
/-- the same, from the front -/
def liveR (at_ : DTime) : Option (List UInt8) → List DVersion → List DVersion
  | _, [] => []
  | seen, v :: l => if seen = some v.1 ∨ Later v.2.1 at_ then liveR at_ seen l else (if v.2.2.1 = true then [] else [v]) ++ liveR at_ (some v.1) l
theorem foldl_live (at_ : DTime) : ∀ (l : List DVersion) (seen : List UInt8) (sm : Bool) (out : List DVersion),
    (l.foldl (lstep at_) (seen, sm, out)).2.2 = out ++ liveR at_ (if sm = true then some seen else none) l
  | [], _, _, _ => by simp [liveR]
  | v :: l, seen, sm, out => by
    rw [List.foldl_cons]
    unfold lstep liveR
    by_cases h : (sm = true ∧ v.1 = seen) ∨ Later v.2.1 at_
    · have h' : (if sm = true then some seen else none) = some v.1 ∨ Later v.2.1 at_ := by
        rcases h with ⟨h1, h2⟩ | h
        · left; rw [if_pos h1, h2]
        · exact .inr h
      rw [if_pos h, if_pos h']
      exact foldl_live at_ l seen sm out
    · have h' : ¬ ((if sm = true then some seen else none) = some v.1 ∨ Later v.2.1 at_) := by
        rintro (k | k)
        · apply h; left
          cases sm with
          | false => simp at k
          | true => simp at k; exact ⟨rfl, k.symm⟩
        · exact h (.inr k)
      rw [if_neg h, if_neg h']
      have := foldl_live at_ l v.1 true (if v.2.2.1 = true then out else out ++ [v])
      refine this.trans ?_
      rw [if_pos rfl]
      split <;> simp
theorem liveL_eq (at_ : DTime) (l : List DVersion) : liveL at_ l = liveR at_ none l := by
  have := foldl_live at_ l [] false []
  simpa [liveL] using this
theorem live_len (at_ : DTime) : ∀ (l : List DVersion) (seen : Option (List UInt8)), (liveR at_ seen l).length ≤ l.length
  | [], _ => by simp [liveR]
  | v :: l, seen => by
    unfold liveR
    split
    · have := live_len at_ l seen; simp only [List.length_cons]; omega
    · have := live_len at_ l (some v.1)
      rw [List.length_append, List.length_cons]
      split <;> simp <;> omega
theorem live_fold_len (at_ : DTime) (l : List DVersion) : ((l.foldl (lstep at_) ([], false, [])).2.2).length ≤ l.length := by
  have := foldl_live at_ l [] false []
  rw [this]
  simpa using live_len at_ l none
theorem live_mem (at_ : DTime) : ∀ (l : List DVersion) (seen : Option (List UInt8)) (v : DVersion), v ∈ liveR at_ seen l → v ∈ l
  | [], _, _, h => by simp [liveR] at h
  | w :: l, seen, v, h => by
    unfold liveR at h
    split at h
    · exact List.mem_cons_of_mem _ (live_mem at_ l seen v h)
    · rw [List.mem_append] at h
      rcases h with h | h
      · split at h
        · simp at h
        · simp at h; simp [h]
      · exact List.mem_cons_of_mem _ (live_mem at_ l _ v h)
/-- the first of a key -/
def firstOf (k : List UInt8) : List DVersion → Option DVersion
  | [] => none
  | v :: l => if v.1 = k then some v else firstOf k l
def toldR (k : List UInt8) (at_ : DTime) : List DVersion → Option DVersion
  | [] => none
  | v :: l => if v.1 = k ∧ ¬ Later v.2.1 at_ then (if v.2.2.1 = true then none else some v) else toldR k at_ l
theorem first_none (k : List UInt8) : ∀ l : List DVersion, (∀ v ∈ l, v.1 ≠ k) → firstOf k l = none
  | [], _ => rfl
  | v :: l, h => by
    unfold firstOf
    rw [if_neg (h v (by simp)), first_none k l fun x hx => h x (by simp [hx])]
theorem first_append (k : List UInt8) (a b : List DVersion) (h : ∀ v ∈ a, v.1 ≠ k) : firstOf k (a ++ b) = firstOf k b := by
  induction a with
  | nil => rfl
  | cons v a ih =>
    rw [List.cons_append, firstOf, if_neg (h v (by simp)), ih fun x hx => h x (by simp [hx])]
/-- behind one of another key: none of this -/
theorem live_seen (at_ : DTime) (k : List UInt8) : ∀ l : List DVersion, (l.Pairwise fun a b => ¬ (a.1 ≠ k ∧ b.1 = k)) → firstOf k (liveR at_ (some k) l) = none
  | [], _ => rfl
  | v :: l, h => by
    rw [List.pairwise_cons] at h
    unfold liveR
    by_cases hv : v.1 = k
    · rw [if_pos (.inl (by rw [hv]))]; exact live_seen at_ k l h.2
    · have hn : ∀ x ∈ l, x.1 ≠ k := fun x hx hk => h.1 x hx ⟨hv, hk⟩
      apply first_none
      intro x hx hk
      split at hx
      · exact hn x (live_mem at_ l _ x hx) hk
      · rw [List.mem_append] at hx
        rcases hx with hx | hx
        · split at hx
          · simp at hx
          · simp at hx; rw [hx] at hk; exact hv hk
        · exact hn x (live_mem at_ l _ x hx) hk
theorem live_told (at_ : DTime) (k : List UInt8) : ∀ (l : List DVersion) (seen : Option (List UInt8)), Strict l → seen ≠ some k → firstOf k (liveR at_ seen l) = toldR k at_ l
  | [], _, _, _ => rfl
  | v :: l, seen, h, hs => by
    have h2 : Strict l := (List.pairwise_cons.1 h).2
    have h1 : ∀ x ∈ l, Ahead v x := (List.pairwise_cons.1 h).1
    unfold liveR toldR
    by_cases hv : v.1 = k
    · by_cases hl : Later v.2.1 at_
      · rw [if_pos (.inr hl), if_neg (show ¬ (v.1 = k ∧ ¬ Later v.2.1 at_) from fun h => h.2 hl)]
        exact live_told at_ k l seen h2 hs
      · rw [if_neg (show ¬ (seen = some v.1 ∨ Later v.2.1 at_) by rintro (h | h); { rw [hv] at h; exact hs h }; { exact hl h }), if_pos (show v.1 = k ∧ ¬ Later v.2.1 at_ from ⟨hv, hl⟩)]
        by_cases hd : v.2.2.1 = true
        · rw [if_pos hd, if_pos hd, List.nil_append, hv]
          refine live_seen at_ k l ?_
          refine List.Pairwise.imp_of_mem (fun {a b} ha hb (hab : Ahead a b) hk => ?_) h2
          have g1 := h1 a ha
          rcases g1 with g1 | g1
          · rcases hab with g2 | g2
            · rw [hk.2] at g2; rw [hv] at g1; exact bl_irr _ (bl_trans _ _ _ g1 g2)
            · exact hk.1 (g2.1.trans hk.2)
          · exact hk.1 (g1.1.symm.trans hv)
        · rw [if_neg hd, if_neg hd, List.cons_append, firstOf, if_pos hv]
    · rw [if_neg (show ¬ (v.1 = k ∧ ¬ Later v.2.1 at_) from fun h => hv h.1)]
      split
      · exact live_told at_ k l seen h2 hs
      · rw [first_append]
        · exact live_told at_ k l _ h2 (by intro h; exact hv (Option.some.inj h))
        · intro x hx hk
          split at hx
          · simp at hx
          · simp at hx; rw [hx] at hk; exact hv hk
end Go.Ev.T1
