/- What a piece of a function answers: one thing where P holds, another where not. -/
import Derived.Test.YticlnmiakaelkaaEvFold
set_option linter.unusedSimpArgs false
set_option linter.unusedVariables false
namespace Go.Ev
def Ans {X : Type} (m yes no : Option X) (P : Prop) : Prop := (P → m = yes) ∧ (¬ P → m = no)
section
variable {X Y A B : Type} {m x y yes no : Option X} {P Q R c : Prop} [Decidable c]
theorem ans_yes : Ans yes yes no True := ⟨fun _ => rfl, fun h => absurd trivial h⟩
theorem ans_end (h : m = yes) : Ans m yes no True := ⟨fun _ => h, fun h' => absurd trivial h'⟩
theorem ans_no : Ans no yes no False := ⟨fun h => h.elim, fun _ => rfl⟩
theorem ans_iff (h : Ans m yes no P) (e : P ↔ Q) : Ans m yes no Q := ⟨fun q => h.1 (e.2 q), fun q => h.2 fun p => q (e.1 p)⟩
theorem ans_dec {b : Bool} : Ans (some b) (some true) (some false) (b = true) := by cases b <;> exact ⟨fun h => by simp at h ⊢, fun h => by simp at h ⊢⟩
theorem ans_decide : Ans (some (decide c)) (some true) (some false) c := ⟨fun h => by rw [decide_eq_true h], fun h => by rw [decide_eq_false h]⟩
theorem ans_ndecide : Ans (some (!decide c)) (some true) (some false) (¬ c) := ⟨fun h => by rw [decide_eq_false h]; rfl, fun h => by rw [decide_eq_true (Classical.not_not.1 h)]; rfl⟩
theorem ans_chk (hc : c) (h : Ans x yes no P) : Ans (br (decide c) x y) yes no P := by rw [br_pos hc]; exact h
theorem ans_chkn (hc : ¬ c) (h : Ans y yes no P) : Ans (br (decide c) x y) yes no P := by rw [br_neg hc]; exact h
theorem ans_br_no (h : ¬ c → Ans x yes no P) : Ans (br (decide c) no x) yes no (¬ c ∧ P) := by
  by_cases hc : c
  · rw [br_pos hc]; exact ⟨fun h => absurd hc h.1, fun _ => rfl⟩
  · rw [br_neg hc]; exact ans_iff (h hc) ⟨fun h => ⟨hc, h⟩, fun h => h.2⟩
theorem ans_br_no' (h : c → Ans x yes no P) : Ans (br (decide c) x no) yes no (c ∧ P) := by
  by_cases hc : c
  · rw [br_pos hc]; exact ans_iff (h hc) ⟨fun h => ⟨hc, h⟩, fun h => h.2⟩
  · rw [br_neg hc]; exact ⟨fun h => absurd h.1 hc, fun _ => rfl⟩
theorem ans_br_yes (h : ¬ c → Ans x yes no P) : Ans (br (decide c) yes x) yes no (c ∨ P) := by
  by_cases hc : c
  · rw [br_pos hc]; exact ⟨fun _ => rfl, fun h => absurd (.inl hc) h⟩
  · rw [br_neg hc]; exact ans_iff (h hc) ⟨.inr, fun h => h.resolve_left hc⟩
theorem ans_br_yes' (h : c → Ans x yes no P) : Ans (br (decide c) x yes) yes no (c → P) := by
  by_cases hc : c
  · rw [br_pos hc]; exact ans_iff (h hc) ⟨fun h _ => h, fun h => h hc⟩
  · rw [br_neg hc]; exact ⟨fun _ => rfl, fun h => absurd (fun h' => absurd h' hc) h⟩
theorem ans_br (h : c → Ans x yes no P) (k : ¬ c → Ans y yes no Q) : Ans (br (decide c) x y) yes no ((c → P) ∧ (¬ c → Q)) := by
  by_cases hc : c
  · rw [br_pos hc]; exact ans_iff (h hc) ⟨fun h => ⟨fun _ => h, fun h' => absurd hc h'⟩, fun h => h.1 hc⟩
  · rw [br_neg hc]; exact ans_iff (k hc) ⟨fun h => ⟨fun h' => absurd h' hc, fun _ => h⟩, fun h => h.2 hc⟩
theorem ans_brt (h : Ans x yes no P) : Ans (br true x y) yes no P := h
theorem ans_brf (h : Ans y yes no P) : Ans (br false x y) yes no P := h
theorem br_swap (b : Bool) (x y : Option X) : br (!b) x y = br b y x := by cases b <;> rfl
theorem br_bool (b : Bool) (x y : Option X) : br b x y = br (decide (b = true)) x y := by cases b <;> rfl
theorem ans_bool_no {b : Bool} (h : ¬ b = true → Ans x yes no P) : Ans (br b no x) yes no (¬ b = true ∧ P) := by rw [br_bool]; exact ans_br_no h
theorem ans_bool_no' {b : Bool} (h : b = true → Ans x yes no P) : Ans (br b x no) yes no (b = true ∧ P) := by rw [br_bool]; exact ans_br_no' h
theorem ans_bool_yes {b : Bool} (h : ¬ b = true → Ans x yes no P) : Ans (br b yes x) yes no (b = true ∨ P) := by rw [br_bool]; exact ans_br_yes h
theorem ans_bool_yes' {b : Bool} (h : b = true → Ans x yes no P) : Ans (br b x yes) yes no (b = true → P) := by rw [br_bool]; exact ans_br_yes' h
theorem ans_bool {b : Bool} (h : b = true → Ans x yes no P) (k : ¬ b = true → Ans y yes no Q) : Ans (br b x y) yes no ((b = true → P) ∧ (¬ b = true → Q)) := by rw [br_bool]; exact ans_br h k
theorem ans_bnd {mm : Option Y} {a b : Y} {f : Y → Option X} (h : Ans mm (some a) (some b) P) (h1 : P → Ans (f a) yes no Q) (h2 : ¬ P → Ans (f b) yes no R) : Ans (bnd mm f) yes no ((P → Q) ∧ (¬ P → R)) := by
  by_cases hp : P
  · rw [h.1 hp]; exact ans_iff (h1 hp) ⟨fun h => ⟨fun _ => h, fun h' => absurd hp h'⟩, fun h => h.1 hp⟩
  · rw [h.2 hp]; exact ans_iff (h2 hp) ⟨fun h => ⟨fun h' => absurd h' hp, fun _ => h⟩, fun h => h.2 hp⟩
theorem ans_bnd_no {mm : Option Y} {a b : Y} {f : Y → Option X} (h : Ans mm (some a) (some b) P) (h2 : f b = no) (h1 : P → Ans (f a) yes no Q) : Ans (bnd mm f) yes no (P ∧ Q) := by
  by_cases hp : P
  · rw [h.1 hp]; exact ans_iff (h1 hp) ⟨fun h => ⟨hp, h⟩, fun h => h.2⟩
  · rw [h.2 hp]; exact ⟨fun h => absurd h.1 hp, fun _ => h2⟩
theorem ans_bnd_no' {mm : Option Y} {a b : Y} {f : Y → Option X} (h : Ans mm (some a) (some b) P) (h2 : f a = no) (h1 : ¬ P → Ans (f b) yes no Q) : Ans (bnd mm f) yes no (¬ P ∧ Q) := by
  by_cases hp : P
  · rw [h.1 hp]; exact ⟨fun h => absurd hp h.1, fun _ => h2⟩
  · rw [h.2 hp]; exact ans_iff (h1 hp) ⟨fun h => ⟨hp, h⟩, fun h => h.2⟩
theorem ans_bnd_yes {mm : Option Y} {a b : Y} {f : Y → Option X} (h : Ans mm (some a) (some b) P) (h2 : f a = yes) (h1 : ¬ P → Ans (f b) yes no Q) : Ans (bnd mm f) yes no (P ∨ Q) := by
  by_cases hp : P
  · rw [h.1 hp]; exact ⟨fun _ => h2, fun h => absurd (.inl hp) h⟩
  · rw [h.2 hp]; exact ans_iff (h1 hp) ⟨.inr, fun h => h.resolve_left hp⟩
theorem ans_bnd_yes' {mm : Option Y} {a b : Y} {f : Y → Option X} (h : Ans mm (some a) (some b) P) (h2 : f b = yes) (h1 : P → Ans (f a) yes no Q) : Ans (bnd mm f) yes no (P → Q) := by
  by_cases hp : P
  · rw [h.1 hp]; exact ans_iff (h1 hp) ⟨fun h _ => h, fun h => h hp⟩
  · rw [h.2 hp]; exact ⟨fun _ => h2, fun h => absurd (fun h' => absurd h' hp) h⟩
/-- the last call -/
theorem ans_bnd_end {mm : Option Y} {a b : Y} {f : Y → Option X} (h : Ans mm (some a) (some b) P) (h1 : f a = yes) (h2 : f b = no) : Ans (bnd mm f) yes no P := by
  by_cases hp : P
  · rw [h.1 hp]; exact ⟨fun _ => h1, fun h => absurd hp h⟩
  · rw [h.2 hp]; exact ⟨fun h => absurd h hp, fun _ => h2⟩
theorem ans_bnd_end' {mm : Option Y} {a b : Y} {f : Y → Option X} (h : Ans mm (some a) (some b) P) (h1 : f a = no) (h2 : f b = yes) : Ans (bnd mm f) yes no (¬ P) := by
  by_cases hp : P
  · rw [h.1 hp]; exact ⟨fun h => absurd hp h, fun _ => h1⟩
  · rw [h.2 hp]; exact ⟨fun _ => h2, fun h => absurd hp h⟩
theorem ans_val {mm : Option Y} {v : Y} {f : Y → Option X} (h : mm = some v) (h1 : Ans (f v) yes no Q) : Ans (bnd mm f) yes no Q := by rw [h]; exact h1
theorem bnd_eq {mm : Option Y} {v : Y} {f : Y → Option X} (h : mm = some v) : bnd mm f = f v := by rw [h]; rfl
theorem ans_not {m : Option Bool} (h : Ans m (some true) (some false) P) : Ans m (some false) (some true) (¬ P) := ⟨fun hp => h.2 hp, fun hp => h.1 (Classical.not_not.1 hp)⟩
theorem ans_eq {m m' : Option X} (h : Ans m yes no P) (h' : Ans m' yes no Q) (e : P ↔ Q) : m = m' := by
  by_cases hp : P
  · rw [h.1 hp, h'.1 (e.1 hp)]
  · rw [h.2 hp, h'.2 fun q => hp (e.2 q)]
theorem ans_total {m : Option Bool} (h : Ans m (some true) (some false) P) : ∃ b : Bool, m = some b ∧ (b = true ↔ P) := by
  by_cases hp : P
  · exact ⟨true, h.1 hp, by simp [hp]⟩
  · exact ⟨false, h.2 hp, by simp [hp]⟩
/-- n rounds, each asks p i -/
theorem ans_rounds {T : Type} {B : T → (T → Option X) → Option X} (emb : Nat → T) (N : Nat) (p : Nat → Prop)
    (hstep : ∀ i C, i < N → (∀ j, j < i → p j) → Ans (B (emb i) C) (C (emb (i + 1))) no (p i)) (hend : ∀ C, (∀ j, j < N → p j) → B (emb N) C = yes) :
    ∀ n i, i ≤ N → N < n + i → (∀ j, j < i → p j) → Ans (forG B n (emb i)) yes no (∀ j, i ≤ j → j < N → p j)
  | 0, i, h1, h2, _ => absurd h1 (by omega)
  | n + 1, i, h1, h2, h3 => by
    simp only [forG]
    by_cases hi : i < N
    · have hs := hstep i (forG B n) hi h3
      by_cases hp : p i
      · rw [hs.1 hp]
        refine ans_iff (ans_rounds emb N p hstep hend n (i + 1) hi (by omega) fun j hj => ?_) ⟨fun h j hj hN => ?_, fun h j hj hN => h j (by omega) hN⟩
        · rcases Nat.lt_or_ge j i with h | h
          · exact h3 j h
          · have : j = i := by omega
            subst this; exact hp
        · rcases Nat.eq_or_lt_of_le hj with h' | h'
          · subst h'; exact hp
          · exact h j h' hN
      · rw [hs.2 hp]
        exact ⟨fun h => absurd (h i (Nat.le_refl _) hi) hp, fun _ => rfl⟩
    · have : i = N := by omega
      subst this
      rw [hend _ h3]
      exact ⟨fun _ => rfl, fun h => absurd (fun j hj hN => absurd hj (by omega)) h⟩
theorem ans_loop {T : Type} {B : T → (T → Option X) → Option X} (emb : Nat → T) (N : Nat) (p : Nat → Prop)
    (hstep : ∀ i C, i < N → (∀ j, j < i → p j) → Ans (B (emb i) C) (C (emb (i + 1))) no (p i)) (hend : ∀ C, (∀ j, j < N → p j) → B (emb N) C = yes) {n : Nat} (hn : N < n) :
    Ans (forG B n (emb 0)) yes no (∀ j, j < N → p j) :=
  ans_iff (ans_rounds emb N p hstep hend n 0 (Nat.zero_le _) (by omega) fun j hj => absurd hj (by omega)) ⟨fun h j hj => h j (Nat.zero_le _) hj, fun h j _ hj => h j hj⟩
theorem wrap_succ {i : Nat} (h : i < 9223372036854775807) : IntKind.i64.wrap ((i : Int) + 1) = ((i + 1 : Nat) : Int) := by rw [wrap_eq (by omega) (by omega)]; omega
theorem beq_dec {α : Type} [BEq α] [LawfulBEq α] [DecidableEq α] (a b : α) : (a == b) = decide (a = b) := by
  by_cases h : a = b
  · subst h; simp
  · rw [decide_eq_false h]; simpa using h
theorem bne_dec {α : Type} [BEq α] [LawfulBEq α] [DecidableEq α] (a b : α) : (a != b) = decide (¬ a = b) := by
  unfold bne; rw [beq_dec]; simp
theorem not_dec : (!decide c) = decide (¬ c) := by simp
end
/-- the place of the first of a kind; -1: there is none -/
def idx {α : Type} (p : α → Bool) (xs : List α) : Int := if xs.findIdx p < xs.length then (xs.findIdx p : Int) else -1
section
variable {α : Type} {p : α → Bool} {xs : List α}
theorem idx_neg : idx p xs < 0 ↔ ∀ x ∈ xs, p x = false := by
  unfold idx
  split
  · rename_i h
    refine ⟨fun h' => absurd h' (by omega), fun h' => ?_⟩
    have := List.findIdx_getElem (p := p) (w := h)
    rw [h' _ (List.getElem_mem h)] at this
    cases this
  · rename_i h
    refine ⟨fun _ x hx => ?_, fun _ => by omega⟩
    cases hpx : p x with
    | false => rfl
    | true => exact absurd (List.findIdx_lt_length.2 ⟨x, hx, hpx⟩) h
theorem idx_lt : idx p xs < xs.length := by
  unfold idx
  split <;> omega
theorem idx_ge : -1 ≤ idx p xs := by
  unfold idx
  split <;> omega
theorem idx_eq {i : Nat} : idx p xs = (i : Int) ↔ ∃ h : i < xs.length, p xs[i] = true ∧ ∀ j (hj : j < i), p (xs[j]'(by omega)) = false := by
  unfold idx
  split
  · rename_i h
    constructor
    · intro e
      have e : xs.findIdx p = i := by omega
      subst e
      exact ⟨h, List.findIdx_getElem, fun j hj => by simpa using List.not_of_lt_findIdx hj⟩
    · rintro ⟨h1, h2, h3⟩
      have : xs.findIdx p = i := (List.findIdx_eq h1).2 ⟨h2, h3⟩
      omega
  · rename_i h
    refine ⟨fun e => by omega, fun ⟨h1, h2, _⟩ => absurd (List.findIdx_lt_length.2 ⟨_, List.getElem_mem h1, h2⟩) h⟩
theorem idx_rounds {T X : Type} {z : α} {B : T → (T → Option X) → Option X} (emb : Nat → T) (out : Nat → X) (fin : X)
    (hstep : ∀ i C, i < xs.length → B (emb i) C = if p (xs.getD i z) = true then some (out i) else C (emb (i + 1))) (hend : ∀ C, B (emb xs.length) C = some fin) :
    ∀ n i, i ≤ xs.length → xs.length < n + i → (∀ j (hj : j < xs.length), j < i → p xs[j] = false) → forG B n (emb i) = some (if xs.findIdx p < xs.length then out (xs.findIdx p) else fin)
  | 0, i, h1, h2, _ => absurd h1 (by omega)
  | n + 1, i, h1, h2, h3 => by
    simp only [forG]
    by_cases hi : i < xs.length
    · rw [hstep i _ hi]
      have hg : xs.getD i z = xs[i] := by simp [List.getD_eq_getElem?_getD, hi]
      rw [hg]
      by_cases hp : p xs[i] = true
      · have : xs.findIdx p = i := (List.findIdx_eq hi).2 ⟨hp, fun j hj => h3 j (by omega) hj⟩
        rw [if_pos hp, this, if_pos hi]
      · rw [if_neg hp]
        refine idx_rounds emb out fin hstep hend n (i + 1) hi (by omega) fun j hj hji => ?_
        rcases Nat.lt_or_ge j i with h | h
        · exact h3 j hj h
        · have : j = i := by omega
          subst this; simpa using hp
    · have : i = xs.length := by omega
      subst this
      have hno : ¬ xs.findIdx p < xs.length := fun h => by
        have h4 := List.findIdx_getElem (p := p) (w := h)
        rw [h3 _ h h] at h4; cases h4
      rw [hend, if_neg hno]
theorem idx_loop {T X : Type} {z : α} {B : T → (T → Option X) → Option X} (emb : Nat → T) (out : Nat → X) (fin : X)
    (hstep : ∀ i C, i < xs.length → B (emb i) C = if p (xs.getD i z) = true then some (out i) else C (emb (i + 1))) (hend : ∀ C, B (emb xs.length) C = some fin) {n : Nat} (hn : xs.length < n) :
    forG B n (emb 0) = some (if xs.findIdx p < xs.length then out (xs.findIdx p) else fin) :=
  idx_rounds emb out fin hstep hend n 0 (Nat.zero_le _) (by omega) fun j hj h => absurd h (by omega)
end
end Go.Ev
