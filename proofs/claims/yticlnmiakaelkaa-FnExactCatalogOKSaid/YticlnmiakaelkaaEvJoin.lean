/- What a claim's own texts use. -/
import Derived.Test.YticlnmiakaelkaaEvDraw3
import Derived.Test.YticlnmiakaelkaaEvFn
set_option linter.unusedSimpArgs false
set_option linter.unusedVariables false
namespace Go.Ev

section
variable {P : Program} {Γ : Tab} {Δ : List (Nat × Con)}
theorem DelOk.nil {w0 : World} : DelOk P w0 [] := fun f c h => by simp at h
theorem DelOk.cons {w0 : World} {f : Nat} {c : Con} (h : ConOk P w0 f c) (he : Enters' P f) (hd : DelOk P w0 Δ) : DelOk P w0 ((f, c) :: Δ) := by
  intro g d hm
  rcases List.mem_cons.1 hm with e | e
  · cases e; exact ⟨h, he⟩
  · exact hd g d e
theorem enters' {f : Nat} {fn : Func} (hf : P.funcs[f]? = some fn) (h : (!(fn.name == "runtime.NumGoroutine") && fn.body.isSome) = true) : Enters' P f := by
  intro args w
  simp only [Bool.and_eq_true, Bool.not_eq_true'] at h
  obtain ⟨h1, h2⟩ := h
  have h3 : fn.name ≠ "runtime.NumGoroutine" := by simpa using h1
  cases hb : fn.body with
  | none => rw [hb] at h2; simp at h2
  | some b => simp [callFunc, hf, h3, hb, mark]
theorem draws_of {w0 : World} (hΓ : TabOk P Γ) (hΔ : DelOk P w0 Δ) (hm : P.follows .mixedOrders = true) {w : World} (hb : Go.RowKit.Below w0.heap.size w0 w) : DrawSound P w Γ Δ := draw_sound hΓ (hΔ.later hb) hm
theorem tab_of (h : tabOk P Γ Γ = true) : TabOk P Γ := tabOk_ok h

/-! ### what the equations are made of -/
theorem br_true {ρ : Type} (x y : Option ρ) : br true x y = x := rfl
theorem br_false {ρ : Type} (x y : Option ρ) : br false x y = y := rfl
theorem bnd_none {α ρ : Type} (f : α → Option ρ) : bnd none f = none := rfl
theorem bnd_some' {α ρ : Type} (y : α) (f : α → Option ρ) : bnd (some y) f = f y := rfl
theorem chk_true {ρ : Type} (x : Option ρ) : chk true x = x := rfl
theorem onSum_inl {α ρ σ : Type} (y : α) (f : α → Option σ) (g : ρ → Option σ) : onSum (.inl y : α ⊕ ρ) f g = f y := rfl
theorem onSum_inr {α ρ σ : Type} (z : ρ) (f : α → Option σ) (g : ρ → Option σ) : onSum (.inr z : α ⊕ ρ) f g = g z := rfl
end
end Go.Ev
