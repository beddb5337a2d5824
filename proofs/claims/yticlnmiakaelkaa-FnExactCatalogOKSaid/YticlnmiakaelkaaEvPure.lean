/- Loops over lists, out of their equations. -/
import Derived.Test.YticlnmiakaelkaaEvJoin
set_option linter.unusedSimpArgs false
set_option linter.unusedVariables false
namespace Go.Ev

theorem wrap_eq {x : Int} (h1 : -9223372036854775808 ≤ x) (h2 : x ≤ 9223372036854775807) : IntKind.i64.wrap x = x := by
  rw [IntKind.wrap_i64]; omega

theorem br_if {ρ : Type} (p : Prop) [Decidable p] (x y : Option ρ) : br (decide p) x y = if p then x else y := by
  by_cases h : p
  · rw [if_pos h, decide_eq_true h]; rfl
  · rw [if_neg h, decide_eq_false h]; rfl
theorem br_b {ρ : Type} (b : Bool) (x y : Option ρ) : br b x y = if b = true then x else y := by cases b <;> rfl
theorem br_pos {ρ : Type} {p : Prop} [Decidable p] (h : p) (x y : Option ρ) : br (decide p) x y = x := by rw [br_if, if_pos h]
theorem br_neg {ρ : Type} {p : Prop} [Decidable p] (h : ¬ p) (x y : Option ρ) : br (decide p) x y = y := by rw [br_if, if_neg h]

/-- a list, element by element: on with a new state, or out -/
def foldE {α S R X : Type} (g : Nat → α → S → S ⊕ R) (fin : S → X) (out : R → X) : List α → Nat → S → X
  | [], _, s => fin s
  | x :: r, i, s => match g i x s with
    | .inl s' => foldE g fin out r (i + 1) s'
    | .inr r => out r

/-- A loop that counts its way along a list. -/
theorem list_loop {α S R X : Type} (xs : List α) (z : α) (L : Nat → S → Int → Option X) (g : Nat → α → S → S ⊕ R) (fin : S → X) (out : R → X) (K : Nat) (I : Nat → S → Prop)
    (hstep : ∀ k (i : Nat) s, K ≤ k → i < xs.length → I i s → L (k + 1) s (i : Int) = (match g i (xs.getD i z) s with
      | .inl s' => L k s' ((i + 1 : Nat) : Int)
      | .inr r => some (out r)) ∧ ∀ s', g i (xs.getD i z) s = .inl s' → I (i + 1) s')
    (hend : ∀ k s, K ≤ k → I xs.length s → L (k + 1) s (xs.length : Int) = some (fin s)) :
    ∀ (n i : Nat) (s : S) (k : Nat), n + i = xs.length → K + n + 1 ≤ k → I i s → L k s (i : Int) = some (foldE g fin out (xs.drop i) i s)
  | 0, i, s, k, hn, hk, hI => by
    obtain ⟨k, rfl⟩ : ∃ k', k = k' + 1 := ⟨k - 1, by omega⟩
    have hi : i = xs.length := by omega
    subst hi
    rw [hend k s (by omega) hI, List.drop_length]
    rfl
  | n + 1, i, s, k, hn, hk, hI => by
    obtain ⟨k, rfl⟩ : ∃ k', k = k' + 1 := ⟨k - 1, by omega⟩
    have hi : i < xs.length := by omega
    obtain ⟨h1, h2⟩ := hstep k i s (by omega) hi hI
    have hd : xs.drop i = xs.getD i z :: xs.drop (i + 1) := by
      rw [List.drop_eq_getElem_cons hi]
      simp [List.getD_eq_getElem?_getD, hi]
    rw [h1, hd]
    simp only [foldE]
    cases hg : g i (xs.getD i z) s with
    | inl s' =>
      simp only
      exact list_loop xs z L g fin out K I hstep hend n (i + 1) s' k (by omega) (by omega) (h2 s' hg)
    | inr r => rfl
theorem list_loop0 {α S R X : Type} {xs : List α} (z : α) {L : Nat → S → Int → Option X} (g : Nat → α → S → S ⊕ R) (fin : S → X) (out : R → X) (K : Nat) (I : Nat → S → Prop)
    (hstep : ∀ k (i : Nat) s, K ≤ k → i < xs.length → I i s → L (k + 1) s (i : Int) = (match g i (xs.getD i z) s with
      | .inl s' => L k s' ((i + 1 : Nat) : Int)
      | .inr r => some (out r)) ∧ ∀ s', g i (xs.getD i z) s = .inl s' → I (i + 1) s')
    (hend : ∀ k s, K ≤ k → I xs.length s → L (k + 1) s (xs.length : Int) = some (fin s)) {s : S} {k : Nat} (hk : K + xs.length + 1 ≤ k) (hI : I 0 s) : L k s 0 = some (foldE g fin out xs 0 s) := by
  have := list_loop xs z L g fin out K I hstep hend xs.length 0 s k (by omega) hk hI
  simpa using this
end Go.Ev
