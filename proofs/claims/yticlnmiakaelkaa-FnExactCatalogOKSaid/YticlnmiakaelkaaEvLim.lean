/- What an equation with fuel comes to, fuel enough. -/
import Derived.Test.YticlnmiakaelkaaEvPure
set_option linter.unusedSimpArgs false
set_option linter.unusedVariables false
namespace Go.Ev

/-- With fuel enough, f is v. -/
def Lim {X : Type} (f : Nat → Option X) (v : Option X) : Prop := ∃ k0, ∀ k, k0 ≤ k → f k = v
section
variable {X Y Z : Type}
theorem lim_const (v : Option X) : Lim (fun _ => v) v := ⟨0, fun _ _ => rfl⟩
theorem lim_bnd {m : Nat → Option Y} {M : Option Y} {f : Nat → Y → Option X} {F : Y → Option X} (h : Lim m M) (hf : ∀ y, Lim (fun k => f k y) (F y)) : Lim (fun k => bnd (m k) (fun y => f k y)) (bnd M F) := by
  obtain ⟨k1, h1⟩ := h
  cases M with
  | none => exact ⟨k1, fun k hk => by simp only [h1 k hk]; rfl⟩
  | some y =>
    obtain ⟨k2, h2⟩ := hf y
    exact ⟨max k1 k2, fun k hk => by simp only [h1 k (by omega)]; exact h2 k (by omega)⟩
theorem lim_br {b : Bool} {f g : Nat → Option X} {F G : Option X} (hf : Lim f F) (hg : Lim g G) : Lim (fun k => br b (f k) (g k)) (br b F G) := by
  cases b
  · exact hg
  · exact hf
theorem lim_onSum {r : Y ⊕ Z} {f : Nat → Y → Option X} {F : Y → Option X} {g : Nat → Z → Option X} {G : Z → Option X} (hf : ∀ y, Lim (fun k => f k y) (F y)) (hg : ∀ z, Lim (fun k => g k z) (G z)) : Lim (fun k => onSum r (fun y => f k y) (fun z => g k z)) (onSum r F G) := by
  cases r with
  | inl y => exact hf y
  | inr z => exact hg z
theorem lim_succ {f : Nat → Option X} {v : Option X} (h : Lim (fun k => f (k + 1)) v) : Lim f v := by
  obtain ⟨k0, hk⟩ := h
  refine ⟨k0 + 1, fun k h => ?_⟩
  obtain ⟨j, rfl⟩ : ∃ j, k = j + 1 := ⟨k - 1, by omega⟩
  exact hk j (by omega)
theorem lim_eq {f g : Nat → Option X} {v : Option X} (h : Lim g v) (e : ∀ k, f k = g k) : Lim f v := by
  obtain ⟨k0, hk⟩ := h
  exact ⟨k0, fun k hk' => (e k).trans (hk k hk')⟩
theorem lim_some {f : Nat → Option X} {v : X} (h : Lim f (some v)) : ∃ k, f k = some v := by
  obtain ⟨k0, hk⟩ := h
  exact ⟨k0, hk k0 (Nat.le_refl _)⟩

/-- A loop that counts: n rounds still to go. -/
def forN {S : Type} (B : Int → S → (S → Option X) → Option X) (E : S → Option X) : Nat → Nat → S → Option X
  | 0, _, s => E s
  | n + 1, i, s => B (i : Int) s (forN B E n (i + 1))
theorem lim_for {S : Type} {L : Nat → S → Int → Option X} {B : Int → S → (S → Option X) → Option X} {E : S → Option X} (len : Nat) (hlen : len ≤ 4611686018427387904)
    (hB : ∀ (i : Nat) s, i < len → ∀ C : S → Option X, (∀ s, Lim (fun k => L k s (IntKind.i64.wrap ((i : Int) + 1))) (C s)) → Lim (fun k => L (k + 1) s (i : Int)) (B i s C)) (hE : ∀ s, Lim (fun k => L (k + 1) s (len : Int)) (E s)) :
    ∀ (n i : Nat) (s : S), n + i = len → Lim (fun k => L k s (i : Int)) (forN B E n i s)
  | 0, i, s, h => by
    have : i = len := by omega
    subst this
    exact lim_succ (hE s)
  | n + 1, i, s, h => by
    refine lim_succ (hB i s (by omega) _ fun s' => ?_)
    have := lim_for len hlen hB hE n (i + 1) s' (by omega)
    rw [wrap_eq (by omega) (by omega)]
    exact this
theorem lim_for0 {S : Type} {L : Nat → S → Int → Option X} {B : Int → S → (S → Option X) → Option X} {E : S → Option X} (len : Nat) (hlen : len ≤ 4611686018427387904)
    (hB : ∀ (i : Nat) s, i < len → ∀ C : S → Option X, (∀ s, Lim (fun k => L k s (IntKind.i64.wrap ((i : Int) + 1))) (C s)) → Lim (fun k => L (k + 1) s (i : Int)) (B i s C)) (hE : ∀ s, Lim (fun k => L (k + 1) s (len : Int)) (E s)) (s : S) :
    Lim (fun k => L k s 0) (forN B E len 0 s) := lim_for len hlen hB hE len 0 s (by omega)
theorem lim_br' {b : Bool} {f g : Nat → Option X} {F G : Option X} (hf : b = true → Lim f F) (hg : b = false → Lim g G) : Lim (fun k => br b (f k) (g k)) (br b F G) := by
  cases b
  · exact hg rfl
  · exact hf rfl
/-- A loop that counts below a bound: n rounds at the most. -/
def forF {S : Type} (B : Int → S → (S → Option X) → Option X) : Nat → Nat → S → Option X
  | 0, _, _ => none
  | n + 1, i, s => B (i : Int) s (forF B n (i + 1))
theorem lim_forF {S : Type} {L : Nat → S → Int → Option X} {B : Int → S → (S → Option X) → Option X} (bound : Int) (hb : bound ≤ 4611686018427387904)
    (hB : ∀ (i : Nat) s, ∀ C : S → Option X, (∀ s, (i : Int) < bound → Lim (fun k => L k s (IntKind.i64.wrap ((i : Int) + 1))) (C s)) → Lim (fun k => L (k + 1) s (i : Int)) (B i s C)) :
    ∀ (n i : Nat) (s : S), 0 < n → bound - i < n → Lim (fun k => L k s (i : Int)) (forF B n i s)
  | 0, i, s, h, _ => absurd h (by omega)
  | n + 1, i, s, _, h => by
    refine lim_succ (hB i s _ fun s' hi => ?_)
    rw [wrap_eq (by omega) (by omega)]
    exact lim_forF bound hb hB n (i + 1) s' (by omega) (by omega)
theorem lim_forF0 {S : Type} {L : Nat → S → Int → Option X} {B : Int → S → (S → Option X) → Option X} (bound : Int) (hb : bound ≤ 4611686018427387904)
    (hB : ∀ (i : Nat) s, ∀ C : S → Option X, (∀ s, (i : Int) < bound → Lim (fun k => L k s (IntKind.i64.wrap ((i : Int) + 1))) (C s)) → Lim (fun k => L (k + 1) s (i : Int)) (B i s C)) (s : S) :
    Lim (fun k => L k s 0) (forF B (bound.toNat + 1) 0 s) := lim_forF bound hb hB _ 0 s (by omega) (by omega)
/-- What is known of an answer, if there is one. -/
def Holds (m : Option Y) (p : Y → Prop) : Prop := ∀ y, m = some y → p y
theorem holds_br {b : Bool} {x y : Option Y} {p : Y → Prop} (hx : Holds x p) (hy : Holds y p) : Holds (br b x y) p := by
  cases b
  · exact hy
  · exact hx
theorem holds_bnd {m : Option Z} {f : Z → Option Y} {p : Y → Prop} (h : ∀ z, Holds (f z) p) : Holds (bnd m f) p := by
  cases m with
  | none => intro y hy; simp [bnd] at hy
  | some z => exact h z
theorem holds_onSum {W : Type} {r : Z ⊕ W} {f : Z → Option Y} {g : W → Option Y} {p : Y → Prop} (hf : ∀ z, Holds (f z) p) (hg : ∀ z, Holds (g z) p) : Holds (onSum r f g) p := by
  cases r with
  | inl z => exact hf z
  | inr z => exact hg z
theorem holds_none {p : Y → Prop} : Holds none p := fun y h => by cases h
theorem holds_some {p : Y → Prop} {x : Y} (h : p x) : Holds (some x) p := fun y e => by cases e; exact h
theorem holds_forF {S : Type} {B : Int → S → (S → Option X) → Option X} {p : X → Prop} (h : ∀ i s C, (∀ s, Holds (C s) p) → Holds (B i s C) p) : ∀ n i s, Holds (forF B n i s) p
  | 0, _, _ => holds_none
  | n + 1, i, s => h i s _ fun s' => holds_forF h n (i + 1) s'
/-- bind, where something is known of what comes first -/
theorem lim_bndP {m : Nat → Option Y} {M : Option Y} {f : Nat → Y → Option X} {F : Y → Option X} (p : Y → Prop) (h : Lim m M) (hp : Holds M p) (hf : ∀ y, p y → Lim (fun k => f k y) (F y)) : Lim (fun k => bnd (m k) (fun y => f k y)) (bnd M F) := by
  obtain ⟨k1, h1⟩ := h
  cases M with
  | none => exact ⟨k1, fun k hk => by simp only [h1 k hk]; rfl⟩
  | some y =>
    obtain ⟨k2, h2⟩ := hf y (hp y rfl)
    exact ⟨max k1 k2, fun k hk => by simp only [h1 k (by omega)]; exact h2 k (by omega)⟩
theorem lim_onSum' {r : Y ⊕ Z} {f : Nat → Y → Option X} {F : Y → Option X} {g : Nat → Z → Option X} {G : Z → Option X} (hf : ∀ y, r = .inl y → Lim (fun k => f k y) (F y)) (hg : ∀ z, r = .inr z → Lim (fun k => g k z) (G z)) : Lim (fun k => onSum r (fun y => f k y) (fun z => g k z)) (onSum r F G) := by
  cases r with
  | inl y => exact hf y rfl
  | inr z => exact hg z rfl
end
end Go.Ev
