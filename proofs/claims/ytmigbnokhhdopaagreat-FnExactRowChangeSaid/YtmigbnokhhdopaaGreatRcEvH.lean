import Derived.Test.YtmigbnokhhdopaaGreatRcEvG
set_option linter.unusedSimpArgs false
set_option linter.unusedVariables false
section
namespace Go.Ev
open Go Go.Proofs
def MkMax : Int := 4611686018427387904
def MK {X : Type} (M : X → Int → Option (Int × X)) (H : X → Int → Option Int) (c : Int) (P : X → Prop) : Prop :=
 ∀ x k, P x → 0 ≤ k → k + c ≤ MkMax → ∃ k' x', M x k = some (k', x') ∧ H x' k = some k' ∧ k ≤ k' ∧ k' ≤ k + c
def MkStep {X : Type} (zm zh : X) (BM : List X × Int × Int → (List X × Int × Int → Option (List X × Int)) → Option (List X × Int)) (BH : List X × Int × Int → (List X × Int × Int → Option (Int ⊕ Int)) → Option (Int ⊕ Int)) (c : Int) (P : X → Prop) : Prop :=
 ∀ (i : Nat) x k, P x → 0 ≤ k → k + c ≤ MkMax → i < 1048576 → ∃ k' x',
  (∀ l C, i < l.length → l.getD i zm = x → BM (l, k, (i : Int)) C = C (l.set i x', k', ((i + 1 : Nat) : Int))) ∧
  (∀ l C, i < l.length → l.getD i zh = x' → BH (l, k, (i : Int)) C = C (l, k', ((i + 1 : Nat) : Int))) ∧ k ≤ k' ∧ k' ≤ k + c
theorem y142q {α : Type} {l : List α} {i : Nat} {x z : α} (h : i < l.length) : (l.set i x).getD i z = x := by
 simp [List.getD_eq_getElem?_getD, h]
theorem getD_mid {α : Type} (p : List α) (x : α) (t : List α) (z : α) : (p ++ x :: t).getD p.length z = x := by
 simp [List.getD_eq_getElem?_getD]
theorem set_mid {α : Type} (p : List α) (x y : α) (t : List α) : (p ++ x :: t).set p.length y = p ++ y :: t := by
 simp
section
variable {X : Type} {zm zh : X} {BM : List X × Int × Int → (List X × Int × Int → Option (List X × Int)) → Option (List X × Int)} {BH : List X × Int × Int → (List X × Int × Int → Option (Int ⊕ Int)) → Option (Int ⊕ Int)} {c : Int} {P : X → Prop}
theorem mk_loop (hs : MkStep zm zh BM BH c P) (hc : 0 ≤ c)
  (hm : ∀ l k C, BM (l, k, (l.length : Int)) C = some (l, k)) (hh : ∀ l k C, BH (l, k, (l.length : Int)) C = some (.inl k)) :
  ∀ (r p : List X) (k : Int), (∀ x ∈ r, P x) → 0 ≤ k → k + c * r.length ≤ MkMax → p.length + r.length ≤ 1048576 → ∃ k' r',
   r'.length = r.length ∧ k ≤ k' ∧ k' ≤ k + c * r.length ∧ (∀ n, r.length < n → forG BM n (p ++ r, k, (p.length : Int)) = some (p ++ r', k')) ∧
   (∀ n (q : List X), q.length = p.length → r.length < n → forG BH n (q ++ r', k, (p.length : Int)) = some (.inl k'))
 | [], p, k, _, h0, hk, hl => by
  refine ⟨k, [], rfl, Int.le_refl _, by simp, fun n hn => ?_, fun n q hq hn => ?_⟩
  ·obtain ⟨m, rfl⟩ : ∃ m, n = m + 1 := ⟨n - 1, by simp at hn; omega⟩
   have := hm p k (forG BM m)
   simpa [forG] using this
  ·obtain ⟨m, rfl⟩ : ∃ m, n = m + 1 := ⟨n - 1, by simp at hn; omega⟩
   have := hh q k (forG BH m)
   rw [hq] at this
   simpa [forG] using this
 | x :: t, p, k, hP, h0, hk, hl => by
  have hlen : ((x :: t).length : Int) = t.length + 1 := by simp
  have hmul : c * ((x :: t).length : Int) = c * t.length + c := by rw [hlen, Int.mul_add, Int.mul_one]
  have hpos : 0 ≤ c * (t.length : Int) := Int.mul_nonneg hc (by omega)
  rw [hmul] at hk ⊢
  have hl' : p.length + (t.length + 1) ≤ 1048576 := by simpa using hl
  obtain ⟨k1, x', e1, e2, g1, g2⟩ := hs p.length x k (hP x (by simp)) h0 (by omega) (by omega)
  obtain ⟨k2, t', q1, q2, q3, q4, q5⟩ := mk_loop hs hc hm hh t (p ++ [x']) k1 (fun y hy => hP y (by simp [hy])) (by omega) (by omega) (by simp; omega)
  refine ⟨k2, x' :: t', by simp [q1], by omega, by omega, fun n hn => ?_, fun n q hq hn => ?_⟩
  ·obtain ⟨m, rfl⟩ : ∃ m, n = m + 1 := ⟨n - 1, by simp at hn; omega⟩
   have a := e1 (p ++ x :: t) (forG BM m) (by simp) (getD_mid p x t zm)
   rw [set_mid] at a
   have b := q4 m (by simp at hn; omega)
   simp only [List.append_assoc, List.cons_append, List.nil_append, List.length_append, List.length_cons, List.length_nil, Nat.zero_add] at b
   simp only [forG]; rw [a]; exact b
  ·obtain ⟨m, rfl⟩ : ∃ m, n = m + 1 := ⟨n - 1, by simp at hn; omega⟩
   have a := e2 (q ++ x' :: t') (forG BH m) (by simp; omega) (by rw [← hq]; exact getD_mid q x' t' zh)
   have b := q5 m (q ++ [x']) (by simp [hq]) (by simp at hn; omega)
   simp only [List.append_assoc, List.cons_append, List.nil_append, List.length_append, List.length_cons, List.length_nil, Nat.zero_add] at b
   simp only [forG]; rw [a]; exact b
theorem mk_slice (hs : MkStep zm zh BM BH c P) (hc : 0 ≤ c)
  (hm : ∀ l k C, BM (l, k, (l.length : Int)) C = some (l, k)) (hh : ∀ l k C, BH (l, k, (l.length : Int)) C = some (.inl k))
  (l : List X) (k : Int) (hP : l.length ≤ 1048576 ∧ ∀ x ∈ l, P x) (h0 : 0 ≤ k) (hk : k + c * 1048576 ≤ MkMax) : ∃ k' l',
   forG BM ((l.length : Int).toNat + 1) (l, k, 0) = some (l', k') ∧ forG BH ((l'.length : Int).toNat + 1) (l', k, 0) = some (.inl k') ∧ k ≤ k' ∧ k' ≤ k + c * 1048576 := by
 have hmul : c * (l.length : Int) ≤ c * 1048576 := Int.mul_le_mul_of_nonneg_left (by omega) hc
 obtain ⟨k', l', e1, g1, g2, e2, e3⟩ := mk_loop hs hc hm hh l [] k hP.2 h0 (by omega) (by simpa using hP.1)
 refine ⟨k', l', ?_, ?_, g1, by omega⟩
 ·have := e2 ((l.length : Int).toNat + 1) (by simp)
  simpa using this
 ·have := e3 ((l'.length : Int).toNat + 1) [] rfl (by simp [e1])
  simpa using this
end
def MKo {X : Type} (M : X → Int → Option (Int × X)) (c : Int) (P : X → Prop) : Prop :=
 ∀ x k, P x → 0 ≤ k → k + c ≤ MkMax → ∃ k' x', M x k = some (k', x') ∧ k ≤ k' ∧ k' ≤ k + c
def MkStepo {X : Type} (zm : X) (BM : List X × Int × Int → (List X × Int × Int → Option (List X × Int)) → Option (List X × Int)) (c : Int) (P : X → Prop) : Prop :=
 ∀ (i : Nat) x k, P x → 0 ≤ k → k + c ≤ MkMax → i < 1048576 → ∃ k' x',
  (∀ l C, i < l.length → l.getD i zm = x → BM (l, k, (i : Int)) C = C (l.set i x', k', ((i + 1 : Nat) : Int))) ∧ k ≤ k' ∧ k' ≤ k + c
section
variable {X : Type} {zm : X} {BM : List X × Int × Int → (List X × Int × Int → Option (List X × Int)) → Option (List X × Int)} {c : Int} {P : X → Prop}
theorem mk_loopo (hs : MkStepo zm BM c P) (hc : 0 ≤ c)
  (hm : ∀ l k C, BM (l, k, (l.length : Int)) C = some (l, k)) :
  ∀ (r p : List X) (k : Int), (∀ x ∈ r, P x) → 0 ≤ k → k + c * r.length ≤ MkMax → p.length + r.length ≤ 1048576 → ∃ k' r',
   r'.length = r.length ∧ k ≤ k' ∧ k' ≤ k + c * r.length ∧ (∀ n, r.length < n → forG BM n (p ++ r, k, (p.length : Int)) = some (p ++ r', k'))
 | [], p, k, _, h0, hk, hl => by
  refine ⟨k, [], rfl, Int.le_refl _, by simp, fun n hn => ?_⟩
  obtain ⟨m, rfl⟩ : ∃ m, n = m + 1 := ⟨n - 1, by simp at hn; omega⟩
  have := hm p k (forG BM m)
  simpa [forG] using this
 | x :: t, p, k, hP, h0, hk, hl => by
  have hlen : ((x :: t).length : Int) = t.length + 1 := by simp
  have hmul : c * ((x :: t).length : Int) = c * t.length + c := by rw [hlen, Int.mul_add, Int.mul_one]
  have hpos : 0 ≤ c * (t.length : Int) := Int.mul_nonneg hc (by omega)
  rw [hmul] at hk ⊢
  have hl' : p.length + (t.length + 1) ≤ 1048576 := by simpa using hl
  obtain ⟨k1, x', e1, g1, g2⟩ := hs p.length x k (hP x (by simp)) h0 (by omega) (by omega)
  obtain ⟨k2, t', q1, q2, q3, q4⟩ := mk_loopo hs hc hm t (p ++ [x']) k1 (fun y hy => hP y (by simp [hy])) (by omega) (by omega) (by simp; omega)
  refine ⟨k2, x' :: t', by simp [q1], by omega, by omega, fun n hn => ?_⟩
  obtain ⟨m, rfl⟩ : ∃ m, n = m + 1 := ⟨n - 1, by simp at hn; omega⟩
  have a := e1 (p ++ x :: t) (forG BM m) (by simp) (getD_mid p x t zm)
  rw [set_mid] at a
  have b := q4 m (by simp at hn; omega)
  simp only [List.append_assoc, List.cons_append, List.nil_append, List.length_append, List.length_cons, List.length_nil, Nat.zero_add] at b
  simp only [forG]; rw [a]; exact b
theorem mk_sliceo (hs : MkStepo zm BM c P) (hc : 0 ≤ c)
  (hm : ∀ l k C, BM (l, k, (l.length : Int)) C = some (l, k))
  (l : List X) (k : Int) (hP : l.length ≤ 1048576 ∧ ∀ x ∈ l, P x) (h0 : 0 ≤ k) (hk : k + c * 1048576 ≤ MkMax) : ∃ k' l',
   forG BM ((l.length : Int).toNat + 1) (l, k, 0) = some (l', k') ∧ k ≤ k' ∧ k' ≤ k + c * 1048576 := by
 have hmul : c * (l.length : Int) ≤ c * 1048576 := Int.mul_le_mul_of_nonneg_left (by omega) hc
 obtain ⟨k', l', e1, g1, g2, e2⟩ := mk_loopo hs hc hm l [] k hP.2 h0 (by omega) (by simpa using hP.1)
 refine ⟨k', l', ?_, g1, by omega⟩
 have := e2 ((l.length : Int).toNat + 1) (by simp)
 simpa using this
end
theorem not3 : (!((3 : Nat) == 0)) = true := rfl
theorem not10 : (!((10 : Nat) == 0)) = true := rfl
theorem text_loop {B : Int × List UInt8 → (Int × List UInt8 → Option (List UInt8)) → Option (List UInt8)} (d : Int → UInt8)
  (h1 : ∀ k s C, 0 < k → k ≤ 9000000000000000000 → s.length ≤ 100 → B (k, s) C = C (k.tdiv 10, d k :: s)) (h2 : ∀ s C, B (0, s) C = some s) :
  ∀ (m : Nat) (k : Int) (s : List UInt8) (n : Nat), 0 ≤ k → k ≤ 9000000000000000000 → k < 10 ^ m → s.length + m ≤ 100 → k.toNat < n → ∃ t, forG B n (k, s) = some t ∧ t.length ≤ 100
 | 0, k, s, n, h0, hk2, hk, hs, hn => by
  have : k = 0 := by simp at hk; omega
  subst this
  obtain ⟨j, rfl⟩ : ∃ j, n = j + 1 := ⟨n - 1, by omega⟩
  exact ⟨s, h2 s _, by omega⟩
 | m + 1, k, s, n, h0, hk2, hk, hs, hn => by
  obtain ⟨j, rfl⟩ : ∃ j, n = j + 1 := ⟨n - 1, by omega⟩
  by_cases hz : k = 0
  ·subst hz; exact ⟨s, h2 s _, by omega⟩
  have hd : k.tdiv 10 = k / 10 := Int.tdiv_eq_ediv_of_nonneg h0
  have hk' : k < 10 ^ m * 10 := by rw [← Int.pow_succ]; exact hk
  obtain ⟨t, e, g⟩ := text_loop d h1 h2 m (k.tdiv 10) (d k :: s) j (by rw [hd]; omega) (by rw [hd]; omega) (by rw [hd]; generalize (10 : Int) ^ m = w at *; omega) (by simp; omega) (by rw [hd]; omega)
  exact ⟨t, by simp only [forG]; rw [h1 k s _ (by omega) hk2 (by omega)]; exact e, g⟩
end Go.Ev
end
section
namespace Go.Ev
def SmT (n : Nat) : (t : Ty) → t.den → Prop
 | .int k, v => Rng k v
 | .bool, _ => True
 | .str, s => s.length ≤ n
 | .sl t, xs => xs.length ≤ n ∧ ∀ x ∈ xs, SmT n t x
 | .unit, _ => True
 | .any, _ => True
 | .osl _ _, _ => True
 | .mp _ _, _ => True
 | .omp _ _, _ => True
 | .pair a b, x => SmT n a x.1 ∧ SmT n b x.2
theorem rd_smT {H : Type} : ∀ (t : Ty) (x : t.den) (d : DataW H), Rd t x d → SmT maxLen t x
 | .int k, v, d, h => h.2
 | .bool, _, _, _ => trivial
 | .str, s, d, h => h.2
 | .unit, _, _, _ => trivial
 | .any, _, _, _ => trivial
 | .osl _ _, _, _, _ => trivial
 | .mp _ _, _, _, _ => trivial
 | .omp _ _, _, _, _ => trivial
 | .pair a b, x, d, ⟨p, ps, _, h1, h2⟩ => ⟨rd_smT a x.1 p h1, rd_smT b x.2 _ h2⟩
 | .sl t, xs, d, h => by
  rcases h with ⟨_, rfl⟩ | ⟨es, sp, _, hl, hm, he⟩
  ·exact ⟨Nat.zero_le _, fun x hx => by simp at hx⟩
  ·refine ⟨hm, fun x hx => ?_⟩
   obtain ⟨i, hi, rfl⟩ := List.mem_iff_getElem.1 hx
   have h1 : es[i]? = some es[i] := List.getElem?_eq_getElem (by omega)
   have := rd_smT t _ _ (he i _ h1)
   rwa [show xs.getD i t.zero = xs[i] by simp [List.getD_eq_getElem?_getD, hi]] at this
end Go.Ev
end
