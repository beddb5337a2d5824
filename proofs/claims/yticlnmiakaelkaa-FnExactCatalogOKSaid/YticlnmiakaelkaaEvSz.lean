/- The guard, copies, equality: what their loops do. -/
import Derived.Test.YticlnmiakaelkaaEvAns
set_option linter.unusedSimpArgs false
set_option linter.unusedVariables false
namespace Go.Ev
def Rng (k : IntKind) (n : Int) : Prop := (Lit.int k n).wf = true
def SzR (m : Option Int) (S : Prop) : Prop := ∃ r, m = some r ∧ (r = -1 ∨ (0 ≤ r ∧ r ≤ 1048576 ∧ S))
theorem sz_less {b c : Int} {n : Nat} (hw : IntKind.i64.wrap (b - (n : Int)) = c) (h0 : 0 ≤ b) (h1 : b ≤ 1048576) (hn : n ≤ maxLen) : c < 0 ∨ (0 ≤ c ∧ c ≤ 1048576 ∧ n ≤ 1048576) := by
  simp only [maxLen] at hn
  rw [wrap_eq (by omega) (by omega)] at hw
  omega
theorem szr_and {m : Option Int} {A B : Prop} (a : A) (h : SzR m B) : SzR m (A ∧ B) := by
  obtain ⟨r, e, h⟩ := h
  exact ⟨r, e, h.imp id fun ⟨h0, h1, h2⟩ => ⟨h0, h1, a, h2⟩⟩
theorem mem_getD {α : Type} {xs : List α} {z : α} {i : Nat} (hi : i < xs.length) : xs.getD i z ∈ xs := by
  rw [List.getD_eq_getElem?_getD, List.getElem?_eq_getElem hi]; exact List.getElem_mem hi
theorem sz_loop {α : Type} {xs : List α} (z : α) {B : List α × Int × Int → (List α × Int × Int → Option (Int ⊕ Int)) → Option (Int ⊕ Int)} {E : α → Prop}
    (hB : ∀ (i : Nat) (s : Int) C, i < xs.length → 0 ≤ s → s ≤ 1048576 → ∃ r, (r = -1 ∨ (0 ≤ r ∧ r ≤ 1048576 ∧ E (xs.getD i z))) ∧ B (xs, s, (i : Int)) C = if r < 0 then some (.inr (-1)) else C (xs, r, ((i + 1 : Nat) : Int)))
    (hEnd : ∀ (s : Int) C, B (xs, s, (xs.length : Int)) C = some (.inl s)) (b : Int) (h0 : 0 ≤ b) (h1 : b ≤ 1048576) {n : Nat} (hn : xs.length < n) :
    SzR (bnd (forG B n (xs, b, 0)) fun y1 => onSum y1 (fun y2 => some y2) fun y2 => some y2) (∀ y ∈ xs, E y) := by
  have key : ∀ n i b, 0 ≤ b → b ≤ 1048576 → i ≤ xs.length → xs.length < n + i → (∀ j (hj : j < xs.length), j < i → E xs[j]) → SzR (bnd (forG B n (xs, b, (i : Int))) fun y1 => onSum y1 (fun y2 => some y2) fun y2 => some y2) (∀ y ∈ xs, E y) := by
    intro n
    induction n with
    | zero => intro i b _ _ h1 h2; omega
    | succ n ih =>
      intro i b b0 b1 hi hn hE
      simp only [forG]
      by_cases hlt : i < xs.length
      · obtain ⟨r, hr, e⟩ := hB i b (forG B n) hlt b0 b1
        rw [e]
        rcases hr with rfl | ⟨r0, r1, hr⟩
        · exact ⟨-1, by simp [bnd, onSum], .inl rfl⟩
        · rw [if_neg (by omega)]
          refine ih (i + 1) r r0 r1 hlt (by omega) fun j hj hji => ?_
          have hg : xs.getD i z = xs[i] := by simp [List.getD_eq_getElem?_getD, hlt]
          rw [hg] at hr
          rcases Nat.lt_or_ge j i with h | h
          · exact hE j hj h
          · have : j = i := by omega
            subst this; exact hr
      · have : i = xs.length := by omega
        subst this
        rw [hEnd]
        refine ⟨b, rfl, .inr ⟨b0, b1, fun y hy => ?_⟩⟩
        obtain ⟨j, hj, rfl⟩ := List.mem_iff_getElem.1 hy
        exact hE j hj hj
  exact key n 0 b h0 h1 (Nat.zero_le _) (by omega) fun j hj h => absurd h (by omega)
theorem sz_less' {b c : Int} {n : Nat} (hw : IntKind.i64.wrap (b - (n : Int)) = c) (h0 : 0 ≤ b) (h1 : b ≤ 1048576) (hn : n ≤ maxLen) : ∃ r : Int, (r = -1 ∨ (0 ≤ r ∧ r ≤ 1048576 ∧ n ≤ 1048576)) ∧ (c < 0 ∧ r = -1 ∨ c = r) := by
  rcases sz_less hw h0 h1 hn with h | h
  · exact ⟨-1, .inl rfl, .inl ⟨h, rfl⟩⟩
  · exact ⟨c, .inr h, .inr rfl⟩
theorem fold_copy {α R : Type} (out : R → List α) : ∀ (xs pre post : List α), xs.length = post.length → foldE (fun i (x : α) (ys : List α) => (.inl (ys.set i x) : List α ⊕ R)) id out xs pre.length (pre ++ post) = pre ++ xs
  | [], pre, post, h => by
    have : post = [] := List.eq_nil_of_length_eq_zero (by simpa using h.symm)
    subst this
    rfl
  | x :: r, pre, [], h => by simp at h
  | x :: r, pre, p :: post, h => by
    simp only [foldE]
    have e : (pre ++ p :: post).set pre.length x = (pre ++ [x]) ++ post := by simp
    have el : pre.length + 1 = (pre ++ [x]).length := by simp
    rw [e, el, fold_copy out r (pre ++ [x]) post (by simpa using h)]
    simp
theorem copy_loop {α : Type} (xs : List α) (z z' : α) {B : List α × List α × Int → (List α × List α × Int → Option (List α)) → Option (List α)}
    (hB : ∀ (i : Nat) (ys : List α) C, i < xs.length → ys.length = xs.length → B (xs, ys, (i : Int)) C = C (xs, ys.set i (xs.getD i z), ((i + 1 : Nat) : Int)))
    (hEnd : ∀ (ys : List α) C, B (xs, ys, (xs.length : Int)) C = some ys) {n : Nat} (hn : xs.length < n) : forG B n (xs, List.replicate xs.length z', 0) = some xs := by
  have key := forG_fold0 (S := List α) (R := Empty) (X := List α) (xs := xs) z (B := B) (fun i ys => (xs, ys, i)) (fun i x ys => .inl (ys.set i x)) id (fun r => r.elim) (fun _ ys => ys.length = xs.length)
    (fun i ys C hi hy => by
      refine ⟨hB i ys C hi hy, fun s' e => ?_⟩
      obtain rfl := Sum.inl.inj e
      simp only [List.length_set]
      exact hy)
    (fun ys C _ => hEnd ys C) (n := n) (s := List.replicate xs.length z') hn (by simp)
  rw [key]
  have := fold_copy (R := Empty) (fun r => r.elim) xs [] (List.replicate xs.length z') (by simp)
  simp only [List.length_nil, List.nil_append] at this
  exact congrArg some this
theorem eq_loop {α : Type} (xs : List α) {B : List α × List α × Int → (List α × List α × Int → Option (Unit ⊕ Bool)) → Option (Unit ⊕ Bool)}
    (hB : ∀ (i : Nat) C, i < xs.length → B (xs, xs, (i : Int)) C = C (xs, xs, ((i + 1 : Nat) : Int))) (hEnd : ∀ C, B (xs, xs, (xs.length : Int)) C = some (.inl ())) {n : Nat} (hn : xs.length < n) :
    ∀ i, i ≤ xs.length → xs.length < n + i → forG B n (xs, xs, (i : Int)) = some (.inl ()) := by
  clear hn
  induction n with
  | zero => intro i h1 h2; omega
  | succ n ih =>
    intro i h1 h2
    simp only [forG]
    by_cases hi : i < xs.length
    · rw [hB i _ hi]
      exact ih (i + 1) (by omega) (by omega)
    · have : i = xs.length := by omega
      subst this
      exact hEnd _
end Go.Ev
