import Derived.Test.YtfdmjgmipnohkaaSrQ2
set_option linter.unusedSimpArgs false
set_option linter.unusedVariables false
namespace Go.Ev.T1
open Go Go.Proofs
theorem joins_append : ∀ (acc : List y0q) (rs ss : List DRun), joins acc (rs ++ ss) = joins (joins acc rs) ss
 | _, [], _ => rfl
 | acc, r :: rs, ss => by simp only [List.cons_append, joins]; exact joins_append _ rs ss
theorem joins_perm : ∀ (acc : List y0q) (rs : List DRun), (joins acc rs).Perm (acc ++ rs.flatMap fun r => r.1)
 | acc, [] => by simp [joins]
 | acc, r :: rs => by
  simp only [joins, List.flatMap_cons]
  refine (joins_perm _ rs).trans ?_
  rw [← List.append_assoc]
  exact ((mrg_perm (lt := ahead) r.1 acc).trans List.perm_append_comm).append_right _
theorem joins_srt : ∀ (acc : List y0q) (rs : List DRun), Srt ahead acc → (∀ r ∈ rs, Srt ahead r.1) → Srt ahead (joins acc rs)
 | acc, [], h, _ => h
 | acc, r :: rs, h, hr => joins_srt _ rs (mrg_srt y32q (hr r (by simp)) h) fun x hx => hr x (by simp [hx])
theorem y117q (s : y3q) : (y73q s).Perm (rawAll s) := joins_perm s.1 s.2.1
theorem take_le (rs : List DRun) (i : Nat) (hi : i < rs.length) : ((rs.take i).flatMap fun r => r.1).length + (rs.getD i ZRun).1.length ≤ (rs.flatMap fun r => r.1).length := by
 have : rs = rs.take i ++ (rs[i] :: rs.drop (i + 1)) := by rw [List.getElem_cons_drop, List.take_append_drop]
 rw [y33q hi]
 conv => rhs; rw [this]
 rw [List.flatMap_append, List.flatMap_cons]
 simp only [List.length_append]; omega
theorem specAll (s : y3q) (h1 : s.2.1.length ≤ 1048576) (h2 : (rawAll s).length ≤ 1048576) : F_u8f s = some (y73q s) := by
 have hr : (rawAll s).length = s.1.length + (s.2.1.flatMap fun r => r.1).length := by simp [rawAll]
 have key : F_u8f_l0 s s.1 0 = some (y73q s) := by
  unfold F_u8f_l0
  have := y38q (B := B_u8f_l0) (fun i => (s, joins s.1 (s.2.1.take i), ((i : Nat) : Int))) s.2.1.length (some (y73q s)) (fun i C hi => ?_) (fun C => ?_) (((s.2.1.length : Nat) : Int).toNat + 1) 0 (Nat.zero_le _) (by simp)
  ·simpa [joins] using this
  ·unfold B_u8f_l0
   have hm := take_le s.2.1 i hi
   have hp := (joins_perm s.1 (s.2.1.take i)).length_eq
   simp only [List.length_append] at hp
   simp (disch := omega) only [y9q, Int.toNat_natCast]
   rw [y2q (by omega), y2q (by omega), y2q (by omega), specJoin _ _ (by omega), y127q rfl]
   congr 2
   rw [List.take_succ_eq_append_getElem hi, joins_append, y33q hi]
   rfl
  ·unfold B_u8f_l0
   rw [y11q (by simp)]
   simp [y73q]
 unfold F_u8f
 rw [specJoin _ _ (by simp; omega), nil_mrg, y127q rfl, key, y127q rfl]
def Tie (a b : y0q) : Prop := ¬ Ahead a b ∧ ¬ Ahead b a
theorem tie_symm {a b : y0q} (h : ¬ Tie a b) : ¬ Tie b a := fun k => h ⟨k.2, k.1⟩
theorem tie_iff {a b : y0q} : Tie a b ↔ a.1 = b.1 ∧ a.2.1.1 = b.2.1.1 ∧ a.2.1.2.1 = b.2.1.2.1 := by
 unfold Tie Ahead
 rcases bl_tri a.1 b.1 with h | h | h
 ·constructor
  ·exact fun k => absurd (.inl h) k.1
  ·intro k; rw [k.1] at h; exact absurd h (bl_irr _)
 ·have l1 := @lat a.2.1 b.2.1
  have l2 := @lat b.2.1 a.2.1
  constructor
  ·rintro ⟨k1, k2⟩
   have k1 : ¬ Later a.2.1 b.2.1 := fun k => k1 (.inr ⟨h, k⟩)
   have k2 : ¬ Later b.2.1 a.2.1 := fun k => k2 (.inr ⟨h.symm, k⟩)
   rw [l1] at k1; rw [l2] at k2
   exact ⟨h, by omega, by omega⟩
  ·rintro ⟨_, k1, k2⟩
   refine ⟨?_, ?_⟩
   ·rintro (k | ⟨_, k⟩)
    ·rw [h] at k; exact bl_irr _ k
    ·rw [l1] at k; omega
   ·rintro (k | ⟨_, k⟩)
    ·rw [h] at k; exact bl_irr _ k
    ·rw [l2] at k; omega
 ·constructor
  ·exact fun k => absurd (.inl h) k.2
  ·intro k; rw [k.1] at h; exact absurd h (bl_irr _)
def Strict (l : List y0q) : Prop := l.Pairwise Ahead
theorem ahead_trans {a b c : y0q} (h : Ahead a b) (k : Ahead b c) : Ahead a c := y28q.1 (y32q.trans (y28q.2 h) (y28q.2 k))
theorem y128q {l : List y0q} (h : Strict l) : Srt ahead l := List.Pairwise.imp (fun {a b} h => y32q.asym _ _ (y28q.2 h)) h
theorem y91q {l : List y0q} (h : Srt ahead l) : Strict l ↔ l.Pairwise fun a b => ¬ Tie a b := by
 constructor
 ·exact List.Pairwise.imp fun {a b} h k => k.1 h
 ·intro k
  refine List.Pairwise.imp₂ (fun a b (h1 : ahead b a = false) (h2 : ¬ Tie a b) => ?_) h k
  by_cases ha : Ahead a b
  ·exact ha
  ·refine absurd ⟨ha, fun hb => ?_⟩ h2
   rw [y28q.2 hb] at h1; cases h1
theorem strict_adj : ∀ (l : List y0q), (∀ i, i + 1 < l.length → Ahead (l.getD i y1q) (l.getD (i + 1) y1q)) → Strict l
 | [], _ => List.Pairwise.nil
 | [a], _ => List.pairwise_singleton _ _
 | a :: b :: l, h => by
  have ih := strict_adj (b :: l) fun i hi => by simpa using h (i + 1) (by simpa using hi)
  refine List.Pairwise.cons (fun x hx => ?_) ih
  have hab : Ahead a b := by simpa using h 0 (by simp)
  rcases List.mem_cons.1 hx with rfl | hx
  ·exact hab
  ·exact ahead_trans hab ((List.pairwise_cons.1 ih).1 x hx)
theorem adj_strict {l : List y0q} (h : Strict l) (i : Nat) (hi : i + 1 < l.length) : Ahead (l.getD i y1q) (l.getD (i + 1) y1q) := by
 rw [y33q (show i < l.length by omega), y33q hi]
 exact (List.pairwise_iff_getElem.1 h) i (i + 1) (by omega) hi (by omega)
theorem y101q (s : y3q) (h0 : Srt ahead s.1) (hr : ∀ r ∈ s.2.1, Srt ahead r.1) : Strict (y73q s) ↔ Strict (stab ahead (rawAll s)) := by
 rw [y91q (show Srt ahead (y73q s) from joins_srt s.1 s.2.1 h0 hr), y91q (y103q y32q _)]
 exact ((y117q s).trans (y39q _).symm).pairwise_iff fun {a b} => tie_symm
theorem both_all (s : y3q) (h : Strict (y73q s)) (k : Strict (stab ahead (rawAll s))) : y73q s = stab ahead (rawAll s) :=
 List.Perm.eq_of_pairwise (fun a b _ _ h1 h2 => absurd h2 fun h2 => by
  have := y32q.asym _ _ (y28q.2 h1); rw [y28q.2 h2] at this; cases this) h k ((y117q s).trans (y39q _).symm)
end Go.Ev.T1
