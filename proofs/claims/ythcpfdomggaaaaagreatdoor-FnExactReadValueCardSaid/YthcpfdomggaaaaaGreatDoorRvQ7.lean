/- Quoted texts: both ways the same. -/
import Derived.Test.YthcpfdomggaaaaaGreatDoorRvQ6
import Derived.Lib.CountLaws
set_option linter.unusedSimpArgs false
set_option linter.unusedVariables false
set_option maxRecDepth 100000
namespace Go.Ev.T1
open Go Go.Proofs
/-- what stands between the quotes, each pair of quotes for one; none: a quote stands alone -/
def unq : List UInt8 → Option (List UInt8)
  | [] => some []
  | [c] => if c = 39 then none else some [c]
  | c :: d :: r => if c = 39 then (if d = 39 then (unq r).map (39 :: ·) else none) else (unq (d :: r)).map (c :: ·)
theorem unq_other {c : UInt8} (r : List UInt8) (h : c ≠ 39) : unq (c :: r) = (unq r).map (c :: ·) := by
  cases r with
  | nil => unfold unq; rw [if_neg h]; rfl
  | cons d r => rw [unq, if_neg h]
theorem unq_pair (r : List UInt8) : unq (39 :: 39 :: r) = (unq r).map (39 :: ·) := by rw [unq, if_pos rfl, if_pos rfl]
theorem unq_one (r : List UInt8) (h : r.head? ≠ some 39) : unq (39 :: r) = none := by
  cases r with
  | nil => rfl
  | cons d r => rw [unq, if_pos rfl, if_neg (fun e => h (by rw [e]; rfl))]
def old2 : List UInt8 := [39, 39]
theorem rep_def (new : List UInt8) (hne : old2 ≠ new) (s : List UInt8) : Go.Lib.replaceAll s old2 new = Go.Lib.replaceK old2 new (Go.Lib.count s old2) s := by
  have hb : (old2 == new) = false := by simpa using hne
  unfold Go.Lib.replaceAll Go.Lib.replace Go.Lib.replaceNum
  rw [hb, if_neg (show ¬ false = true by decide), if_pos (Or.inl (by decide))]
theorem rep_miss (new : List UInt8) (hne : old2 ≠ new) (c : UInt8) (r : List UInt8) (h : old2.isPrefixOf (c :: r) = false) : Go.Lib.replaceAll (c :: r) old2 new = c :: Go.Lib.replaceAll r old2 new := by
  rw [rep_def new hne, rep_def new hne]
  have hix : Go.Lib.index (c :: r) old2 = if Go.Lib.index r old2 == -1 then -1 else Go.Lib.index r old2 + 1 := by
    show (if old2.isPrefixOf (c :: r) = true then (0 : Int) else _) = _
    rw [if_neg (by rw [h]; simp)]
  have hge := Go.Lib.index_ge r old2
  by_cases hm : Go.Lib.index r old2 = -1
  · rw [Go.Lib.count_miss hm, Go.Lib.count_miss (by rw [hix, hm]; rfl)]
    rfl
  · obtain ⟨i, hi⟩ : ∃ i : Nat, Go.Lib.index r old2 = i := ⟨(Go.Lib.index r old2).toNat, by omega⟩
    have hi' : Go.Lib.index (c :: r) old2 = ((i + 1 : Nat) : Int) := by
      rw [hix, if_neg (by simpa using hm), hi]; omega
    rw [Go.Lib.count_hit (by decide) hi, Go.Lib.count_hit (by decide) hi']
    have ed : (c :: r).drop (i + 1 + old2.length) = r.drop (i + old2.length) := by
      rw [show i + 1 + old2.length = (i + old2.length) + 1 by omega, List.drop_succ_cons]
    rw [ed, Nat.add_comm 1, Go.Lib.replaceK_hit _ _ _ _ _ hi, Go.Lib.replaceK_hit _ _ _ _ _ hi', ed]
    simp
theorem rep_hit (new : List UInt8) (hne : old2 ≠ new) (r : List UInt8) : Go.Lib.replaceAll (39 :: 39 :: r) old2 new = new ++ Go.Lib.replaceAll r old2 new := by
  rw [rep_def new hne, rep_def new hne]
  have hi : Go.Lib.index (39 :: 39 :: r) old2 = ((0 : Nat) : Int) := by
    show (if old2.isPrefixOf (39 :: 39 :: r) = true then (0 : Int) else _) = _
    rw [if_pos (by simp [old2, List.isPrefixOf])]; rfl
  rw [Go.Lib.count_hit (by decide) hi, Nat.add_comm 1, Go.Lib.replaceK_hit _ _ _ _ _ hi]
  simp [old2]
theorem rep_nil (new : List UInt8) (hne : old2 ≠ new) : Go.Lib.replaceAll [] old2 new = [] := by
  rw [rep_def new hne, Go.Lib.count_miss (by decide)]
  rfl
theorem pre_other {c : UInt8} (r : List UInt8) (h : c ≠ 39) : old2.isPrefixOf (c :: r) = false := by
  have : (39 == c) = false := by simpa using fun e : (39 : UInt8) = c => h e.symm
  simp [old2, List.isPrefixOf, this]
theorem pre_one (r : List UInt8) (h : r.head? ≠ some 39) : old2.isPrefixOf (39 :: r) = false := by
  cases r with
  | nil => rfl
  | cons d r =>
    have hd : d ≠ 39 := fun e => h (by rw [e]; rfl)
    have : (39 == d) = false := by simpa using fun e : (39 : UInt8) = d => hd e.symm
    simp [old2, List.isPrefixOf, this]
theorem unq_rep : ∀ (n : Nat) (l : List UInt8), l.length ≤ n → (unq l = none → (39 : UInt8) ∈ Go.Lib.replaceAll l old2 []) ∧ (∀ r, unq l = some r → (39 : UInt8) ∉ Go.Lib.replaceAll l old2 [] ∧ Go.Lib.replaceAll l old2 [39] = r)
  | _, [], _ => by
    rw [rep_nil _ (by decide), rep_nil _ (by decide)]
    exact ⟨(fun h => by cases h), (fun r h => by cases h; exact ⟨by simp, rfl⟩)⟩
  | 0, c :: r, h => by simp at h
  | n + 1, c :: r, h => by
    have hl : r.length ≤ n := by simpa using h
    by_cases hc : c = 39
    · subst hc
      by_cases hh : r.head? = some 39
      · cases r with
        | nil => simp at hh
        | cons d r =>
          have : d = 39 := by simpa using hh
          subst this
          obtain ⟨i1, i2⟩ := unq_rep n r (by simp at hl; omega)
          rw [unq_pair, rep_hit _ (by decide), rep_hit _ (by decide), List.nil_append]
          refine ⟨fun hn => i1 (by simpa using hn), fun x hx => ?_⟩
          obtain ⟨y, hy, rfl⟩ := Option.map_eq_some_iff.1 hx
          obtain ⟨j1, j2⟩ := i2 y hy
          exact ⟨j1, by rw [j2]; rfl⟩
      · rw [unq_one r hh, rep_miss [] (by decide) 39 r (pre_one r hh)]
        exact ⟨(fun _ => by simp), (fun x hx => by cases hx)⟩
    · obtain ⟨i1, i2⟩ := unq_rep n r hl
      rw [unq_other r hc, rep_miss [] (by decide) c r (pre_other r hc), rep_miss [39] (by decide) c r (pre_other r hc)]
      refine ⟨fun hn => by have := i1 (by simpa using hn); simp [this], fun x hx => ?_⟩
      obtain ⟨y, hy, rfl⟩ := Option.map_eq_some_iff.1 hx
      obtain ⟨j1, j2⟩ := i2 y hy
      refine ⟨?_, by rw [j2]⟩
      simp only [List.mem_cons, not_or]
      exact ⟨fun e => hc e.symm, j1⟩
theorem contains39 (l : List UInt8) : Go.Lib.contains l [39] = decide ((39 : UInt8) ∈ l) := by
  unfold Go.Lib.contains
  rw [Go.Lib.index_one, decide_eq_decide]
  have hge := Go.Lib.indexByte_ge l 39
  constructor
  · intro h
    obtain ⟨i, hi⟩ : ∃ i : Nat, Go.Lib.indexByte l 39 = i := ⟨(Go.Lib.indexByte l 39).toNat, by omega⟩
    exact List.mem_of_getElem? (Go.Lib.indexByte_some hi).1
  · intro h
    by_cases hm : Go.Lib.indexByte l 39 = -1
    · obtain ⟨k, hk, e⟩ := List.getElem_of_mem h
      exact absurd (by rw [List.getElem?_eq_getElem hk, e]) (Go.Lib.indexByte_none hm k)
    · omega
theorem unq_len : ∀ (n : Nat) (l r : List UInt8), l.length ≤ n → unq l = some r → r.length ≤ l.length
  | _, [], r, _, h => by cases h; simp
  | 0, c :: l, r, h, _ => by simp at h
  | n + 1, [c], r, _, h => by
    unfold unq at h
    split at h
    · cases h
    · cases h; simp
  | n + 1, c :: d :: l, r, hl, h => by
    rw [unq] at h
    simp only [List.length_cons] at hl
    split at h
    · split at h
      · obtain ⟨y, hy, rfl⟩ := Option.map_eq_some_iff.1 h
        have := unq_len n l y (by omega) hy
        simp only [List.length_cons]; omega
      · cases h
    · obtain ⟨y, hy, rfl⟩ := Option.map_eq_some_iff.1 h
      have := unq_len n (d :: l) y (by simp; omega) hy
      simp only [List.length_cons] at this ⊢; omega
/-- the letters are the same ones -/
theorem unq_all (p : UInt8 → Prop) (h39 : p 39) : ∀ (n : Nat) (l r : List UInt8), l.length ≤ n → unq l = some r → ((∀ c ∈ l, p c) ↔ ∀ c ∈ r, p c)
  | _, [], r, _, h => by cases h; exact Iff.rfl
  | 0, c :: l, r, h, _ => by simp at h
  | n + 1, [c], r, _, h => by
    unfold unq at h
    split at h
    · cases h
    · cases h; exact Iff.rfl
  | n + 1, c :: d :: l, r, hl, h => by
    rw [unq] at h
    simp only [List.length_cons] at hl
    split at h
    · rename_i hc
      subst hc
      split at h
      · rename_i hd
        subst hd
        obtain ⟨y, hy, rfl⟩ := Option.map_eq_some_iff.1 h
        have := unq_all p h39 n l y (by omega) hy
        simp only [List.mem_cons, forall_eq_or_imp, this]
        exact ⟨fun h => ⟨h.1, h.2.2⟩, fun h => ⟨h.1, h.1, h.2⟩⟩
      · cases h
    · obtain ⟨y, hy, rfl⟩ := Option.map_eq_some_iff.1 h
      have := unq_all p h39 n (d :: l) y (by simp; omega) hy
      have e1 : (∀ x ∈ c :: d :: l, p x) ↔ p c ∧ ∀ x ∈ d :: l, p x := List.forall_mem_cons
      have e2 : (∀ x ∈ c :: y, p x) ↔ p c ∧ ∀ x ∈ y, p x := List.forall_mem_cons
      rw [e1, e2, this]
end Go.Ev.T1
