/- What a collection takes away, both ways. -/
import Derived.Test.YticlnmiakaelkaaCoQ7
import Derived.Test.YticlnmiakaelkaaCoEvE
set_option linter.unusedSimpArgs false
set_option linter.unusedVariables false
namespace Go.Ev.T1
open Go Go.Proofs
theorem take_snoc {α : Type} {l : List α} {i : Nat} {z : α} (hi : i < l.length) : l.take i ++ [l.getD i z] = l.take (i + 1) := by
  rw [List.take_succ_eq_append_getElem hi, getD_lt hi]
theorem fold_take {α β : Type} {l : List α} {i : Nat} {z : α} (hi : i < l.length) (f : β → α → β) (b : β) : (l.take (i + 1)).foldl f b = f ((l.take i).foldl f b) (l.getD i z) := by
  rw [← take_snoc (z := z) hi, List.foldl_append]; rfl
/-! ### the map of what goes -/
def kOf (v : DVersion) : Dka := (v.1, v.2.1, ())
theorem eqT_same : ∀ {t : Ty} {x : t.den}, t.flat = true → eqT t x x = true
  | .int _, x, _ => by simp [eqT, eqI]
  | .bool, x, _ => by simp [eqT, eqB]
  | .str, x, _ => by simp [eqT, eqS]
  | .unit, _, _ => rfl
  | .pair a b, x, hf => by
    simp only [Ty.flat, Bool.and_eq_true] at hf
    simp only [eqT, andB, eqT_same hf.1, eqT_same hf.2, Bool.and_self]
  | .sl _, _, hf => by simp [Ty.flat] at hf
  | .any, _, hf => by simp [Ty.flat] at hf
  | .osl _ _, _, hf => by simp [Ty.flat] at hf
  | .mp _ _, _, hf => by simp [Ty.flat] at hf
  | .omp _ _, _, hf => by simp [Ty.flat] at hf
section
variable {k : Ty} (hk : k.flat = true)
include hk
theorem eqK {x y : k.den} : eqT k x y = true ↔ x = y := ⟨fun h => eqT_eq hk h, fun h => h ▸ eqT_same hk⟩
theorem mget_set (x y : k.den) : ∀ xs : List (k.den × Bool), mgetD k .bool x (mset k .bool y true xs) = true ↔ x = y ∨ mgetD k .bool x xs = true
  | [] => by
    cases h : eqT k x y with
    | true => simp [mset, mgetD, mfind, h, (eqK hk).1 h, (eqK hk).2 rfl, Ty.zero]
    | false =>
      have : ¬ x = y := fun e => by rw [(eqK hk).2 e] at h; cases h
      simp [mset, mgetD, mfind, h, this, Ty.zero]
  | p :: r => by
    have ih := mget_set x y r
    cases h : eqT k y p.1 with
    | true =>
      have e1 := (eqK hk).1 h
      cases h2 : eqT k x p.1 with
      | true =>
        have e2 := (eqK hk).1 h2
        simp [mset, mgetD, mfind, h, h2, e1, e2, (eqK hk).2 rfl]
      | false =>
        have hne : ¬ x = y := fun e => by rw [e, h] at h2; cases h2
        simp [mset, mgetD, mfind, h, h2, hne]
    | false =>
      cases h2 : eqT k x p.1 with
      | true =>
        have hne : ¬ x = y := fun e => by rw [e, h] at h2; cases h2
        simp [mset, mgetD, mfind, h, h2, hne]
      | false =>
        simp only [mset, mgetD, mfind, h, h2] at ih ⊢
        exact ih
end
def gstep (low : DTime) (p : List (Dka × Bool) × List UInt8) (v : DVersion) : List (Dka × Bool) × List UInt8 :=
  if Later v.2.1 low then p else if v.1 = p.2 ∨ v.2.2.1 = true then (mset T199 T4 (kOf v) true p.1, v.1) else (p.1, v.1)
def sstep (low : DTime) (p : List DVersion × List UInt8 × Bool) (v : DVersion) : List DVersion × List UInt8 × Bool :=
  if Later v.2.1 low then p else if v.2.2.1 = true ∨ (p.2.2 = true ∧ p.2.1 = v.1) then (p.1 ++ [v], v.1, true) else (p.1, v.1, true)
def goesL (low : DTime) (l : List DVersion) : List DVersion := (l.foldl (sstep low) ([], [], false)).1
def goneM (low : DTime) (l : List DVersion) : List (Dka × Bool) := (l.foldl (gstep low) ([], [])).1
theorem implGone (a : DStore) (b : DTime) (Z : DStore) (l : List DVersion) (hl : l.length ≤ 1048576) : F_impl_StoreCollect_l0 a b Z [] [] l (l.length : Int) 0 = some (a, b, Z, goneM b l) := by
  unfold F_impl_StoreCollect_l0
  have := loop_run (B := B_impl_StoreCollect_l0) (fun i => (a, b, Z, ((l.take i).foldl (gstep b) ([], [])).1, ((l.take i).foldl (gstep b) ([], [])).2, l, (l.length : Int), ((i : Nat) : Int))) l.length (some (a, b, Z, goneM b l)) (fun i C hi => ?_) (fun C => ?_) (((l.length : Nat) : Int).toNat + 1) 0 (Nat.zero_le _) (by simp)
  · simpa using this
  · unfold B_impl_StoreCollect_l0
    simp (disch := omega) only [wrap_succ, Int.toNat_natCast]
    rw [br_pos (by omega), br_pos (by omega), br_pos (by omega), implTime, bnd_some', fold_take (z := ZVersion) hi]
    generalize (l.take i).foldl (gstep b) ([], []) = p
    generalize l.getD i ZVersion = v
    unfold gstep
    by_cases h : Later v.2.1 b
    · rw [br_pos (tcmp_pos.2 h), if_pos h]
    · rw [br_neg (fun k => h (tcmp_pos.1 k)), if_neg h]
      by_cases h1 : v.1 = p.2
      · have e : (v.1 == p.2) = true := by simp [h1]
        rw [e, brT, if_pos (.inl h1)]
        rfl
      · have e : (v.1 == p.2) = false := by simp [h1]
        rw [e, brF]
        cases hd : v.2.2.1 with
        | true => rw [brT, if_pos (.inr rfl)]; rfl
        | false => rw [brF, if_neg (by simp [h1])]
  · unfold B_impl_StoreCollect_l0
    rw [br_neg (by simp)]
    simp only [List.take_length]
    rfl
theorem specGoes (l : List DVersion) (b : DTime) (hl : l.length ≤ 1048576) : F_spec_l03Goes l b = some (goesL b l) := by
  have hlen : ∀ i, ((l.take i).foldl (sstep b) ([], [], false)).1.length ≤ i := by
    have : ∀ (m : List DVersion) (p : List DVersion × List UInt8 × Bool), (m.foldl (sstep b) p).1.length ≤ p.1.length + m.length := by
      intro m
      induction m with
      | nil => intro p; simp
      | cons v m ih =>
        intro p
        have h1 := ih (sstep b p v)
        have h2 : (sstep b p v).1.length ≤ p.1.length + 1 := by unfold sstep; split <;> (try split) <;> simp
        simp only [List.foldl_cons, List.length_cons]
        omega
    intro i
    have h := this (l.take i) ([], [], false)
    simp only [List.length_nil, Nat.zero_add, List.length_take] at h
    omega
  have key : F_spec_l03Goes_l0 l b [] [] false 0 = some (goesL b l) := by
    unfold F_spec_l03Goes_l0
    have := loop_run (B := B_spec_l03Goes_l0) (fun i => (l, b, ((l.take i).foldl (sstep b) ([], [], false)).1, ((l.take i).foldl (sstep b) ([], [], false)).2.1, ((l.take i).foldl (sstep b) ([], [], false)).2.2, ((i : Nat) : Int))) l.length (some (goesL b l)) (fun i C hi => ?_) (fun C => ?_) (((l.length : Nat) : Int).toNat + 1) 0 (Nat.zero_le _) (by simp)
    · simpa using this
    · unfold B_spec_l03Goes_l0
      simp (disch := omega) only [wrap_succ, Int.toNat_natCast]
      have hle := hlen i
      rw [br_pos (by omega), br_pos (by omega), br_pos (by omega), specTime, bnd_some', fold_take (z := ZVersion) hi]
      generalize (l.take i).foldl (sstep b) ([], [], false) = p at hle ⊢
      generalize l.getD i ZVersion = v
      unfold sstep
      by_cases h : Later v.2.1 b
      · rw [br_pos (tcmp_pos.2 h), if_pos h]
      · rw [br_neg (fun k => h (tcmp_pos.1 k)), if_neg h]
        cases hd : v.2.2.1 with
        | true => rw [brT, br_pos (by simp only [List.length_cons, List.length_nil]; unfold capN; omega), if_pos (.inl rfl)]
        | false =>
          rw [brF]
          cases hs : p.2.2 with
          | false => rw [brF, if_neg (by simp)]
          | true =>
            rw [brT]
            by_cases h1 : p.2.1 = v.1
            · have e : (p.2.1 == v.1) = true := by simp [h1]
              rw [e, brT, br_pos (by simp only [List.length_cons, List.length_nil]; unfold capN; omega), if_pos (.inr ⟨rfl, h1⟩)]
            · have e : (p.2.1 == v.1) = false := by simp [h1]
              rw [e, brF, if_neg (by simp [h1])]
    · unfold B_spec_l03Goes_l0
      rw [br_neg (by simp)]
      simp only [List.take_length]
      rfl
  unfold F_spec_l03Goes
  rw [key]; rfl
/-- the map holds what goes -/
theorem gone_goes (b : DTime) : ∀ (l : List DVersion) (p : List (Dka × Bool) × List UInt8) (q : List DVersion × List UInt8 × Bool), (∀ v ∈ l, v.1 ≠ []) → p.2 = q.2.1 → (q.2.2 = false → p.2 = []) → (∀ x, mgetD T199 T4 x p.1 = true ↔ ∃ g ∈ q.1, kOf g = x) →
    ∀ x, mgetD T199 T4 x (l.foldl (gstep b) p).1 = true ↔ ∃ g ∈ (l.foldl (sstep b) q).1, kOf g = x
  | [], p, q, _, _, _, h => h
  | v :: l, p, q, hne, h1, h2, h => by
    simp only [List.foldl_cons]
    have hv : v.1 ≠ [] := hne v (by simp)
    have hcond : (v.1 = p.2 ∨ v.2.2.1 = true) ↔ (v.2.2.1 = true ∨ (q.2.2 = true ∧ q.2.1 = v.1)) := by
      constructor
      · rintro (e | e)
        · right
          refine ⟨?_, by rw [← h1, e]⟩
          cases hq : q.2.2 with
          | true => rfl
          | false => rw [h2 hq] at e; exact absurd e hv
        · exact .inl e
      · rintro (e | ⟨_, e⟩)
        · exact .inr e
        · exact .inl (by rw [h1, e])
    refine gone_goes b l _ _ (fun w hw => hne w (by simp [hw])) ?_ ?_ ?_
    · unfold gstep sstep
      by_cases hl : Later v.2.1 b
      · rw [if_pos hl, if_pos hl]; exact h1
      · rw [if_neg hl, if_neg hl]
        by_cases hc : v.1 = p.2 ∨ v.2.2.1 = true
        · rw [if_pos hc, if_pos (hcond.1 hc)]
        · rw [if_neg hc, if_neg fun k => hc (hcond.2 k)]
    · unfold gstep sstep
      by_cases hl : Later v.2.1 b
      · rw [if_pos hl, if_pos hl]; exact h2
      · rw [if_neg hl, if_neg hl]
        by_cases hc : v.1 = p.2 ∨ v.2.2.1 = true
        · rw [if_pos (hcond.1 hc)]; intro k; cases k
        · rw [if_neg fun k => hc (hcond.2 k)]; intro k; cases k
    · intro x
      unfold gstep sstep
      by_cases hl : Later v.2.1 b
      · rw [if_pos hl, if_pos hl]; exact h x
      · rw [if_neg hl, if_neg hl]
        by_cases hc : v.1 = p.2 ∨ v.2.2.1 = true
        · rw [if_pos hc, if_pos (hcond.1 hc)]
          have := mget_set (k := T199) rfl x (kOf v) p.1
          refine this.trans ?_
          constructor
          · rintro (e | e)
            · exact ⟨v, by simp, e.symm⟩
            · obtain ⟨g, hg, hk⟩ := (h x).1 e
              exact ⟨g, by simp [hg], hk⟩
          · rintro ⟨g, hg, hk⟩
            rcases List.mem_append.1 hg with hg | hg
            · exact .inr ((h x).2 ⟨g, hg, hk⟩)
            · rw [List.mem_singleton.1 hg] at hk
              exact .inl hk.symm
        · rw [if_neg hc, if_neg fun k => hc (hcond.2 k)]
          exact h x
theorem gone_iff (b : DTime) (l : List DVersion) (hne : ∀ v ∈ l, v.1 ≠ []) (x : Dka) : mgetD T199 T4 x (goneM b l) = true ↔ ∃ g ∈ goesL b l, kOf g = x :=
  gone_goes b l ([], []) ([], [], false) hne rfl (fun _ => rfl) (fun x => by simp [mgetD, mfind, Ty.zero]) x
theorem goes_sub (b : DTime) : ∀ (l : List DVersion) (q : List DVersion × List UInt8 × Bool), ∃ m, m.Sublist l ∧ (l.foldl (sstep b) q).1 = q.1 ++ m
  | [], q => ⟨[], .slnil, by simp⟩
  | v :: l, q => by
    obtain ⟨m, h1, h2⟩ := goes_sub b l (sstep b q v)
    simp only [List.foldl_cons]
    rw [h2]
    unfold sstep
    split
    · exact ⟨m, h1.cons v, rfl⟩
    · split
      · exact ⟨v :: m, h1.cons_cons v, by simp⟩
      · exact ⟨m, h1.cons v, rfl⟩
theorem goesL_sub (b : DTime) (l : List DVersion) : (goesL b l).Sublist l := by
  obtain ⟨m, h1, h2⟩ := goes_sub b l ([], [], false)
  unfold goesL
  rw [h2]; simpa using h1
end Go.Ev.T1
