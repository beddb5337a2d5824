/- Rounds along a list. -/
import Derived.Test.YticlnmiakaelkaaEvLim2
set_option linter.unusedSimpArgs false
set_option linter.unusedVariables false
namespace Go.Ev
theorem forG_fold {α S R X T : Type} (xs : List α) (z : α) {B : T → (T → Option X) → Option X} (emb : Int → S → T) (g : Nat → α → S → S ⊕ R) (fin : S → X) (out : R → X) (I : Nat → S → Prop)
    (hstep : ∀ (i : Nat) s C, i < xs.length → I i s → B (emb (i : Int) s) C = (match g i (xs.getD i z) s with
      | .inl s' => C (emb ((i + 1 : Nat) : Int) s')
      | .inr r => some (out r)) ∧ ∀ s', g i (xs.getD i z) s = .inl s' → I (i + 1) s')
    (hend : ∀ s C, I xs.length s → B (emb (xs.length : Int) s) C = some (fin s)) :
    ∀ (n i : Nat) (s : S), i ≤ xs.length → xs.length < n + i → I i s → forG B n (emb (i : Int) s) = some (foldE g fin out (xs.drop i) i s)
  | 0, i, s, h1, h2, _ => absurd h1 (by omega)
  | n + 1, i, s, h1, h2, hI => by
    simp only [forG]
    by_cases hi : i < xs.length
    · obtain ⟨e1, e2⟩ := hstep i s (forG B n) hi hI
      have hd : xs.drop i = xs.getD i z :: xs.drop (i + 1) := by
        rw [List.drop_eq_getElem_cons hi]
        simp [List.getD_eq_getElem?_getD, hi]
      rw [e1, hd]
      simp only [foldE]
      cases hg : g i (xs.getD i z) s with
      | inl s' => exact forG_fold xs z emb g fin out I hstep hend n (i + 1) s' (by omega) (by omega) (e2 s' hg)
      | inr r => rfl
    · have : i = xs.length := by omega
      subst this
      rw [hend s _ hI, List.drop_length]
      rfl
theorem forG_fold0 {α S R X T : Type} {xs : List α} (z : α) {B : T → (T → Option X) → Option X} (emb : Int → S → T) (g : Nat → α → S → S ⊕ R) (fin : S → X) (out : R → X) (I : Nat → S → Prop)
    (hstep : ∀ (i : Nat) s C, i < xs.length → I i s → B (emb (i : Int) s) C = (match g i (xs.getD i z) s with
      | .inl s' => C (emb ((i + 1 : Nat) : Int) s')
      | .inr r => some (out r)) ∧ ∀ s', g i (xs.getD i z) s = .inl s' → I (i + 1) s')
    (hend : ∀ s C, I xs.length s → B (emb (xs.length : Int) s) C = some (fin s)) {n : Nat} {s : S} (hn : xs.length < n) (hI : I 0 s) : forG B n (emb 0 s) = some (foldE g fin out xs 0 s) := by
  have := forG_fold xs z emb g fin out I hstep hend n 0 s (Nat.zero_le _) (by omega) hI
  simpa using this
theorem foldE_onSum {α S R A C Y : Type} (g : Nat → α → S → S ⊕ R) (fin : S → A) (out : R → C) (f : A → Option Y) (h : C → Option Y) : ∀ (xs : List α) (i : Nat) (s : S),
    onSum (foldE g (fun s => (.inl (fin s) : A ⊕ C)) (fun r => .inr (out r)) xs i s) f h = foldE g (fun s => f (fin s)) (fun r => h (out r)) xs i s
  | [], _, _ => rfl
  | x :: r, i, s => by
    simp only [foldE]
    cases g i x s with
    | inl s' => exact foldE_onSum g fin out f h r (i + 1) s'
    | inr r => rfl
theorem foldE_map {α S R X Y : Type} (g : Nat → α → S → S ⊕ R) (fin : S → X) (out : R → X) (h : X → Y) : ∀ (xs : List α) (i : Nat) (s : S), foldE g (fun s => h (fin s)) (fun r => h (out r)) xs i s = h (foldE g fin out xs i s)
  | [], _, _ => rfl
  | x :: r, i, s => by
    simp only [foldE]
    cases g i x s with
    | inl s' => exact foldE_map g fin out h r (i + 1) s'
    | inr r => rfl
end Go.Ev
