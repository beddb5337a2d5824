/- What an equation with fuel comes to, fuel enough: one way only. -/
import Derived.Test.YticlnmiakaelkaaEvLim
set_option linter.unusedSimpArgs false
set_option linter.unusedVariables false
namespace Go.Ev
/-- Where v is an answer, f gives it, with fuel enough. -/
def Lm {X : Type} (f : Nat → Option X) (v : Option X) : Prop := ∀ r, v = some r → ∃ k0, ∀ k, k0 ≤ k → f k = some r
section
variable {X Y Z : Type}
theorem lm_const (v : Option X) : Lm (fun _ => v) v := fun r h => ⟨0, fun _ _ => h⟩
theorem lm_none (f : Nat → Option X) : Lm f none := fun r h => by cases h
theorem lm_bnd {m : Nat → Option Y} {M : Option Y} {f : Nat → Y → Option X} {F : Y → Option X} (h : Lm m M) (hf : ∀ y, Lm (fun k => f k y) (F y)) : Lm (fun k => bnd (m k) (fun y => f k y)) (bnd M F) := by
  intro r hr
  obtain ⟨y, hy, hr⟩ := bnd_some hr
  obtain ⟨k1, h1⟩ := h y hy
  obtain ⟨k2, h2⟩ := hf y r hr
  exact ⟨max k1 k2, fun k hk => by simp only [h1 k (by omega)]; exact h2 k (by omega)⟩
theorem lm_br {b : Bool} {f g : Nat → Option X} {F G : Option X} (hf : Lm f F) (hg : Lm g G) : Lm (fun k => br b (f k) (g k)) (br b F G) := by
  cases b
  · exact hg
  · exact hf
theorem lm_onSum {r : Y ⊕ Z} {f : Nat → Y → Option X} {F : Y → Option X} {g : Nat → Z → Option X} {G : Z → Option X} (hf : ∀ y, Lm (fun k => f k y) (F y)) (hg : ∀ z, Lm (fun k => g k z) (G z)) : Lm (fun k => onSum r (fun y => f k y) (fun z => g k z)) (onSum r F G) := by
  cases r with
  | inl y => exact hf y
  | inr z => exact hg z
theorem lm_eq {f g : Nat → Option X} {v : Option X} (h : Lm g v) (e : ∀ k, f k = g k) : Lm f v := fun r hr => by
  obtain ⟨k0, hk⟩ := h r hr
  exact ⟨k0, fun k hk' => (e k).trans (hk k hk')⟩
theorem lm_some {f : Nat → Option X} {v : X} (h : Lm f (some v)) : ∃ k, f k = some v := by
  obtain ⟨k0, hk⟩ := h v rfl
  exact ⟨k0, hk k0 (Nat.le_refl _)⟩
/-- A loop, n rounds at the most. -/
def forG {S : Type} (B : S → (S → Option X) → Option X) : Nat → S → Option X
  | 0, _ => none
  | n + 1, s => B s (forG B n)
theorem lm_forG {S : Type} {L : Nat → S → Option X} {B : S → (S → Option X) → Option X} (hB : ∀ s (C : S → Option X), (∀ s, Lm (fun k => L k s) (C s)) → Lm (fun k => L (k + 1) s) (B s C)) : ∀ n s, Lm (fun k => L k s) (forG B n s)
  | 0, s => lm_none _
  | n + 1, s => fun r hr => by
    obtain ⟨k0, hk⟩ := hB s _ (lm_forG hB n) r hr
    refine ⟨k0 + 1, fun k h => ?_⟩
    obtain ⟨j, rfl⟩ : ∃ j, k = j + 1 := ⟨k - 1, by omega⟩
    exact hk j (by omega)
end
end Go.Ev
