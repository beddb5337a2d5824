/- CatalogOK: the program's, and both. -/
import Derived.Test.YtlgmddbndbobfaaFltCatQ6
set_option linter.unusedSimpArgs false
set_option linter.unusedVariables false
set_option maxRecDepth 100000
namespace Go.Ev.T1
open Go Go.Proofs
theorem take_flat {α β : Type} (f : α → List β) (z : α) (xs : List α) {i : Nat} (hi : i < xs.length) : (xs.take i).flatMap f ++ f (xs.getD i z) = (xs.take (i + 1)).flatMap f := by
  rw [List.take_succ_eq_append_getElem hi]
  simp only [List.flatMap_append, List.flatMap_cons, List.flatMap_nil, List.getD_eq_getElem?_getD, List.getElem?_eq_getElem hi, Option.getD_some, List.append_nil]
theorem flat_le {α β : Type} (f : α → List β) (z : α) (n : Nat) : ∀ (xs : List α), (∀ x ∈ xs, (f x).length ≤ n) → (xs.flatMap f).length ≤ n * xs.length
  | [], _ => by simp
  | x :: r, h => by
    have h1 := flat_le f z n r fun y hy => h y (List.mem_cons_of_mem _ hy)
    have h2 := h x List.mem_cons_self
    simp only [List.flatMap_cons, List.length_append, List.length_cons, Nat.mul_add]
    omega
variable {l : List DTable} (hl : SmTables l)
def ImplCatP (l : List DTable) (i : Nat) : Prop := ImplTable (tb l i) ∧ (0 < i → (tb l (i - 1)).1 < (tb l i).1)
include hl
theorem impl_c2 {i : Nat} (hi : i < l.length) (a b : List (List UInt8)) (n : Int) (hb : b.length ≤ 1048576) : F_impl_CatalogOK_l2 l a b l n (i : Int) (tb l i).2.2.2.2.2.1 ((tb l i).2.2.2.2.2.1.length : Int) 0 = some (l, a, b ++ ixNames (tb l i), l, n, (i : Int)) := by
  have h := hl.1
  have hx := (tbSm hl hi).2.2.2.2.2.1
  unfold F_impl_CatalogOK_l2
  have e : ixNames (tb l i) = (tb l i).2.2.2.2.2.1.map (·.2.1) := rfl
  rw [e]
  generalize (tb l i).2.2.2.2.2.1 = x at hx
  have key := (ans_loop (B := B_impl_CatalogOK_l2) (yes := some (l, a, b ++ x.map (·.2.1), l, n, (i : Int))) (no := none) (p := fun _ => True) (fun k => (l, a, b ++ (x.take k).map (·.2.1), l, n, (i : Int), x, (x.length : Int), ((k : Nat) : Int))) x.length (fun k C hk _ => ?_) (fun C _ => ?_) (n := (x.length : Int).toNat + 1) (by omega)).1 fun _ _ => trivial
  · simpa using key
  · unfold B_impl_CatalogOK_l2
    simp (disch := omega) only [wrap_succ, Int.toNat_natCast]
    refine ans_chk (by omega) (ans_chk (by omega) (ans_chk (by omega) (ans_chk (by simp [capN]; omega) (ans_end ?_))))
    rw [List.append_assoc, take_map (fun c : DIndex => c.2.1) ZIndex _ hk]
  · unfold B_impl_CatalogOK_l2
    simp only [List.take_length]
    exact br_neg (by simp) _ _
omit hl in
theorem ix_le {t : DTable} (h : ImplTable t) : (ixNames t).length ≤ 8 := by
  have := h.2.2.2.2.2.2.1
  simp only [ixNames, List.length_map]
  omega
theorem implCatalog : Ans (F_impl_CatalogOK l) (some true) (some false) ((l.length : Int) ≤ 40 ∧ (∀ i, i < l.length → ImplCatP l i) ∧ (l.map (·.2.1)).Nodup ∧ (l.flatMap ixNames).Nodup) := by
  have h := hl.1
  unfold F_impl_CatalogOK
  by_cases h40 : (l.length : Int) > 40
  · rw [br_pos h40]
    exact ⟨fun h => absurd h.1 (by omega), fun _ => rfl⟩
  rw [br_neg h40]
  have hle : ∀ k, k ≤ l.length → (∀ i, i < k → ImplCatP l i) → ((l.take k).flatMap ixNames).length ≤ 320 := fun k hk hp => by
    have := flat_le ixNames ZTable 8 (l.take k) fun x hx => by
      obtain ⟨j, hj, rfl⟩ := List.mem_take_iff_getElem.1 hx
      have := ix_le (hp j (by omega)).1
      simp only [tb] at this
      rwa [getD_get (by omega)] at this
    simp only [List.length_take] at this
    omega
  have key : Ans (F_impl_CatalogOK_l0 l [] [] l (l.length : Int) 0) (some (.inl (l.map (·.2.1), l.flatMap ixNames))) (some (.inr false)) (∀ i, i < l.length → ImplCatP l i) := by
    unfold F_impl_CatalogOK_l0
    refine ans_loop (fun i => (l, (l.take i).map (·.2.1), (l.take i).flatMap ixNames, l, (l.length : Int), ((i : Nat) : Int))) _ _ (fun i C hi hb => ?_) (fun C _ => ?_) (by omega)
    · have hsm := tbSm hl hi
      have h8 := hle i (by omega) hb
      unfold B_impl_CatalogOK_l0
      simp (disch := omega) only [Int.toNat_natCast, wrap_eq]
      refine ans_iff (ans_chk (by omega) (ans_chk (by omega) (ans_chk (by omega) (ans_bnd_end (Y := (List DTable × List (List UInt8) × List (List UInt8) × DTable × List DTable × Int × Int) ⊕ Bool) (a := .inl (l, (l.take i).map (·.2.1), (l.take i).flatMap ixNames, tb l i, l, (l.length : Int), (i : Int))) (b := .inr false) (P := ImplCatP l i) ?_ ?_ rfl)))) Iff.rfl
      · have e1 : ((i : Int) - 1).toNat = i - 1 := by omega
        refine ans_iff (ans_bnd_no (implTable hsm) rfl fun _ => ans_br_yes' fun h0 => ans_chk (by omega) (ans_chk (by omega) (ans_br_no fun _ => ans_yes))) ?_
        simp only [and_true, ge_iff_le, Int.not_le, gt_iff_lt, e1]
        have e2 : (0 : Int) < (i : Int) ↔ 0 < i := by omega
        rw [e2]
        exact Iff.rfl
      · have e3 : ∀ b : List (List UInt8), F_impl_CatalogOK_l2 l ((l.take i).map (·.2.1) ++ [(tb l i).2.1]) b l (l.length : Int) (i : Int) (tb l i).2.2.2.2.2.1 ((tb l i).2.2.2.2.2.1.length : Int) 0 = F_impl_CatalogOK_l2 l ((l.take i).map (·.2.1) ++ [(tb l i).2.1]) b l (l.length : Int) (i : Int) (tb l i).2.2.2.2.2.1 ((tb l i).2.2.2.2.2.1.length : Int) 0 := fun _ => rfl
        simp only [onSum_inl]
        rw [br_pos (by simp [capN]; omega), impl_c2 hl hi _ _ _ (by omega), bnd_some', wrap_succ (by omega)]
        rw [take_map (fun t : DTable => t.2.1) ZTable _ hi, take_flat ixNames ZTable _ hi]
    · unfold B_impl_CatalogOK_l0
      simp only [List.take_length]
      exact br_neg (by simp) _ _
  refine ans_iff (ans_bnd_no key rfl fun hp => ans_bnd_no (implTwiceS _ (by simp; omega)) rfl fun _ => ans_bnd_end (implTwiceS _ (by have := hle l.length (Nat.le_refl _) hp; rw [List.take_length] at this; exact Nat.le_trans this (by decide))) rfl rfl) ?_
  exact ⟨fun h => ⟨by omega, h⟩, fun h => h.2⟩
omit hl in
theorem catalog_iff : ((l.length : Int) ≤ 40 ∧ ∀ i, i < l.length → SpecCatP l i) ↔ ((l.length : Int) ≤ 40 ∧ (∀ i, i < l.length → ImplCatP l i) ∧ (l.map (·.2.1)).Nodup ∧ (l.flatMap ixNames).Nodup) := by
  refine and_congr Iff.rfl ?_
  have hn : (∀ i, i < l.length → ImplTable (tb l i)) → ((∀ i, i < l.length → ∀ k, k < (tb l i).2.2.2.2.2.1.length → idx (fun t => decide ((ix (tb l i) k).2.1 ∈ ixNames t)) l = (i : Int)) ↔ (l.flatMap ixNames).Nodup) := fun hT => by
    rw [List.Nodup, List.pairwise_flatMap]
    have h1 : ∀ a ∈ l, List.Pairwise (· ≠ ·) (ixNames a) := fun a ha => by
      obtain ⟨i, hi, rfl⟩ := List.mem_iff_getElem.1 ha
      have := (hT i hi).2.2.2.2.2.2.2.2.2.2.2.2.2
      simp only [tb] at this
      rw [getD_get hi] at this
      exact this
    have h2 : ∀ (t : DTable) (x : List UInt8), x ∈ ixNames t ↔ ∃ k, k < t.2.2.2.2.2.1.length ∧ (ix t k).2.1 = x := fun t x => by
      simp only [ixNames, List.mem_map]
      constructor
      · rintro ⟨c, hc, rfl⟩
        obtain ⟨k, hk, rfl⟩ := List.mem_iff_getElem.1 hc
        exact ⟨k, hk, by simp only [ix]; rw [getD_get hk]⟩
      · rintro ⟨k, hk, rfl⟩
        exact ⟨_, mem_getD hk, rfl⟩
    constructor
    · intro h
      refine ⟨h1, ?_⟩
      rw [List.pairwise_iff_getElem]
      intro i j hi hj hij x hx y hy e
      subst e
      rw [← getD_get (z := ZTable) hj, h2] at hy
      obtain ⟨k, hk, e⟩ := hy
      have := h j hj k hk
      rw [idx_eq] at this
      have := this.2.2 i hij
      rw [e] at this
      exact absurd hx (by simpa using this)
    · rintro ⟨_, h⟩ i hi k hk
      rw [List.pairwise_iff_getElem] at h
      rw [idx_eq]
      have hm : (ix (tb l i) k).2.1 ∈ ixNames l[i] := by rw [← getD_get (z := ZTable) hi, h2]; exact ⟨k, hk, rfl⟩
      refine ⟨hi, by simpa using hm, fun j hj => ?_⟩
      have := h j i (by omega) hi hj
      exact decide_eq_false fun hc => this _ hc _ hm rfl
  rw [← idx_self (fun t : DTable => t.2.1) ZTable]
  unfold SpecCatP ImplCatP
  constructor
  · intro h
    have hT : ∀ i, i < l.length → ImplTable (tb l i) := fun i hi => (table_iff _).1 (h i hi).1
    exact ⟨fun i hi => ⟨hT i hi, (h i hi).2.1⟩, fun i hi => (h i hi).2.2.1, (hn hT).1 fun i hi => (h i hi).2.2.2⟩
  · rintro ⟨h1, h2, h3⟩ i hi
    exact ⟨(table_iff _).2 (h1 i hi).1, (h1 i hi).2, h2 i hi, (hn fun i hi => (h1 i hi).1).2 h3 i hi⟩
theorem catalog_same : ∃ b, F_spec_CatalogOK l = some b ∧ F_impl_CatalogOK l = some b := by
  obtain ⟨b, hb, _⟩ := ans_total (specCatalog hl)
  exact ⟨b, hb, (ans_eq (implCatalog hl) (specCatalog hl) catalog_iff.symm).trans hb⟩
end Go.Ev.T1
