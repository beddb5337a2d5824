import Derived.Test.YtfdmjgmipnohkaaSrQ9
import Derived.Test.YtfdmjgmipnohkaaSrEvE
set_option linter.unusedSimpArgs false
set_option linter.unusedVariables false
namespace Go.Ev.T1
open Go Go.Proofs
theorem fold_take {α β : Type} {l : List α} {i : Nat} {z : α} (hi : i < l.length) (f : β → α → β) (b : β) : (l.take (i + 1)).foldl f b = f ((l.take i).foldl f b) (l.getD i z) := by
 rw [← take_snoc (z := z) hi, List.foldl_append]; rfl
def kOf (v : y0q) : Dka := (v.1, v.2.1, ())
theorem eqT_same : ∀ {t : Ty} {x : t.den}, t.flat = true → eqT t x x = true
 | .int _, x, _ => by simp [eqT, eqI]
 | .bool, x, _ => by simp [eqT, eqB]
 | .str, x, _ => by simp [eqT, eqS]
 | .unit, _, _ => rfl
 | .pair a b, x, hf => by
  simp only [Ty.flat, Bool.and_eq_true] at hf
  simp only [eqT, andB, eqT_same hf.1, eqT_same hf.2, Bool.and_self]
 | .sl _, _, hf => by simp [Ty.flat] at hf
 | .any, _, hf => by simp [Ty.flat] at hf
 | .osl _ _, _, hf => by simp [Ty.flat] at hf
 | .mp _ _, _, hf => by simp [Ty.flat] at hf
 | .omp _ _, _, hf => by simp [Ty.flat] at hf
section
variable {k : Ty} (hk : k.flat = true)
include hk
theorem eqK {x y : k.den} : eqT k x y = true ↔ x = y := ⟨fun h => eqT_eq hk h, fun h => h ▸ eqT_same hk⟩
theorem mget_set (x y : k.den) : ∀ xs : List (k.den × Bool), mgetD k .bool x (mset k .bool y true xs) = true ↔ x = y ∨ mgetD k .bool x xs = true
 | [] => by
  cases h : eqT k x y with
  | true => simp [mset, mgetD, mfind, h, (eqK hk).1 h, (eqK hk).2 rfl, Ty.zero]
  | false =>
   have : ¬ x = y := fun e => by rw [(eqK hk).2 e] at h; cases h
   simp [mset, mgetD, mfind, h, this, Ty.zero]
 | p :: r => by
  have ih := mget_set x y r
  cases h : eqT k y p.1 with
  | true =>
   have e1 := (eqK hk).1 h
   cases h2 : eqT k x p.1 with
   | true =>
    have e2 := (eqK hk).1 h2
    simp [mset, mgetD, mfind, h, h2, e1, e2, (eqK hk).2 rfl]
   | false =>
    have hne : ¬ x = y := fun e => by rw [e, h] at h2; cases h2
    simp [mset, mgetD, mfind, h, h2, hne]
  | false =>
   cases h2 : eqT k x p.1 with
   | true =>
    have hne : ¬ x = y := fun e => by rw [e, h] at h2; cases h2
    simp [mset, mgetD, mfind, h, h2, hne]
   | false =>
    simp only [mset, mgetD, mfind, h, h2] at ih ⊢
    exact ih
end
def gstep (low : DTime) (p : List (Dka × Bool) × List UInt8) (v : y0q) : List (Dka × Bool) × List UInt8 :=
 if Later v.2.1 low then p else if v.1 = p.2 ∨ v.2.2.1 = true then (mset T153 T4 (kOf v) true p.1, v.1) else (p.1, v.1)
def sstep (low : DTime) (p : List y0q × List UInt8 × Bool) (v : y0q) : List y0q × List UInt8 × Bool :=
 if Later v.2.1 low then p else if v.2.2.1 = true ∨ (p.2.2 = true ∧ p.2.1 = v.1) then (p.1 ++ [v], v.1, true) else (p.1, v.1, true)
def goesL (low : DTime) (l : List y0q) : List y0q := (l.foldl (sstep low) ([], [], false)).1
def goneM (low : DTime) (l : List y0q) : List (Dka × Bool) := (l.foldl (gstep low) ([], [])).1
theorem implGone (a : y3q) (b : DTime) (Z : y3q) (l : List y0q) (hl : l.length ≤ 1048576) : F_u62f_l0 a b Z [] [] l (l.length : Int) 0 = some (a, b, Z, goneM b l) := by
 unfold F_u62f_l0
 have := y38q (B := B_u62f_l0) (fun i => (a, b, Z, ((l.take i).foldl (gstep b) ([], [])).1, ((l.take i).foldl (gstep b) ([], [])).2, l, (l.length : Int), ((i : Nat) : Int))) l.length (some (a, b, Z, goneM b l)) (fun i C hi => ?_) (fun C => ?_) (((l.length : Nat) : Int).toNat + 1) 0 (Nat.zero_le _) (by simp)
 ·simpa using this
 ·unfold B_u62f_l0
  simp (disch := omega) only [y9q, Int.toNat_natCast]
  rw [y2q (by omega), y2q (by omega), y2q (by omega), implTime, y6q, fold_take (z := y1q) hi]
  generalize (l.take i).foldl (gstep b) ([], []) = p
  generalize l.getD i y1q = v
  unfold gstep
  by_cases h : Later v.2.1 b
  ·rw [y2q (y121q.2 h), if_pos h]
  ·rw [y11q (fun k => h (y121q.1 k)), if_neg h]
   by_cases h1 : v.1 = p.2
   ·have e : (v.1 == p.2) = true := by simp [h1]
    rw [e, brT, if_pos (.inl h1)]
    rfl
   ·have e : (v.1 == p.2) = false := by simp [h1]
    rw [e, brF]
    cases hd : v.2.2.1 with
    | true => rw [brT, if_pos (.inr rfl)]; rfl
    | false => rw [brF, if_neg (by simp [h1])]
 ·unfold B_u62f_l0
  rw [y11q (by simp)]
  simp only [List.take_length]
  rfl
theorem specGoes (l : List y0q) (b : DTime) (hl : l.length ≤ 1048576) : F_u28f l b = some (goesL b l) := by
 have hlen : ∀ i, ((l.take i).foldl (sstep b) ([], [], false)).1.length ≤ i := by
  have : ∀ (m : List y0q) (p : List y0q × List UInt8 × Bool), (m.foldl (sstep b) p).1.length ≤ p.1.length + m.length := by
   intro m
   induction m with
   | nil => intro p; simp
   | cons v m ih =>
    intro p
    have h1 := ih (sstep b p v)
    have h2 : (sstep b p v).1.length ≤ p.1.length + 1 := by unfold sstep; split <;> (try split) <;> simp
    simp only [List.foldl_cons, List.length_cons]
    omega
  intro i
  have h := this (l.take i) ([], [], false)
  simp only [List.length_nil, Nat.zero_add, List.length_take] at h
  omega
 have key : F_u28f_l0 l b [] [] false 0 = some (goesL b l) := by
  unfold F_u28f_l0
  have := y38q (B := B_u28f_l0) (fun i => (l, b, ((l.take i).foldl (sstep b) ([], [], false)).1, ((l.take i).foldl (sstep b) ([], [], false)).2.1, ((l.take i).foldl (sstep b) ([], [], false)).2.2, ((i : Nat) : Int))) l.length (some (goesL b l)) (fun i C hi => ?_) (fun C => ?_) (((l.length : Nat) : Int).toNat + 1) 0 (Nat.zero_le _) (by simp)
  ·simpa using this
  ·unfold B_u28f_l0
   simp (disch := omega) only [y9q, Int.toNat_natCast]
   have hle := hlen i
   rw [y2q (by omega), y2q (by omega), y2q (by omega), specTime, y6q, fold_take (z := y1q) hi]
   generalize (l.take i).foldl (sstep b) ([], [], false) = p at hle ⊢
   generalize l.getD i y1q = v
   unfold sstep
   by_cases h : Later v.2.1 b
   ·rw [y2q (y121q.2 h), if_pos h]
   ·rw [y11q (fun k => h (y121q.1 k)), if_neg h]
    cases hd : v.2.2.1 with
    | true => rw [brT, y2q (by simp only [List.length_cons, List.length_nil]; unfold capN; omega), if_pos (.inl rfl)]
    | false =>
     rw [brF]
     cases hs : p.2.2 with
     | false => rw [brF, if_neg (by simp)]
     | true =>
      rw [brT]
      by_cases h1 : p.2.1 = v.1
      ·have e : (p.2.1 == v.1) = true := by simp [h1]
       rw [e, brT, y2q (by simp only [List.length_cons, List.length_nil]; unfold capN; omega), if_pos (.inr ⟨rfl, h1⟩)]
      ·have e : (p.2.1 == v.1) = false := by simp [h1]
       rw [e, brF, if_neg (by simp [h1])]
  ·unfold B_u28f_l0
   rw [y11q (by simp)]
   simp only [List.take_length]
   rfl
 unfold F_u28f
 rw [key]; rfl
theorem gone_goes (b : DTime) : ∀ (l : List y0q) (p : List (Dka × Bool) × List UInt8) (q : List y0q × List UInt8 × Bool), (∀ v ∈ l, v.1 ≠ []) → p.2 = q.2.1 → (q.2.2 = false → p.2 = []) → (∀ x, mgetD T153 T4 x p.1 = true ↔ ∃ g ∈ q.1, kOf g = x) →
  ∀ x, mgetD T153 T4 x (l.foldl (gstep b) p).1 = true ↔ ∃ g ∈ (l.foldl (sstep b) q).1, kOf g = x
 | [], p, q, _, _, _, h => h
 | v :: l, p, q, hne, h1, h2, h => by
  simp only [List.foldl_cons]
  have hv : v.1 ≠ [] := hne v (by simp)
  have hcond : (v.1 = p.2 ∨ v.2.2.1 = true) ↔ (v.2.2.1 = true ∨ (q.2.2 = true ∧ q.2.1 = v.1)) := by
   constructor
   ·rintro (e | e)
    ·right
     refine ⟨?_, by rw [← h1, e]⟩
     cases hq : q.2.2 with
     | true => rfl
     | false => rw [h2 hq] at e; exact absurd e hv
    ·exact .inl e
   ·rintro (e | ⟨_, e⟩)
    ·exact .inr e
    ·exact .inl (by rw [h1, e])
  refine gone_goes b l _ _ (fun w hw => hne w (by simp [hw])) ?_ ?_ ?_
  ·unfold gstep sstep
   by_cases hl : Later v.2.1 b
   ·rw [if_pos hl, if_pos hl]; exact h1
   ·rw [if_neg hl, if_neg hl]
    by_cases hc : v.1 = p.2 ∨ v.2.2.1 = true
    ·rw [if_pos hc, if_pos (hcond.1 hc)]
    ·rw [if_neg hc, if_neg fun k => hc (hcond.2 k)]
  ·unfold gstep sstep
   by_cases hl : Later v.2.1 b
   ·rw [if_pos hl, if_pos hl]; exact h2
   ·rw [if_neg hl, if_neg hl]
    by_cases hc : v.1 = p.2 ∨ v.2.2.1 = true
    ·rw [if_pos (hcond.1 hc)]; intro k; cases k
    ·rw [if_neg fun k => hc (hcond.2 k)]; intro k; cases k
  ·intro x
   unfold gstep sstep
   by_cases hl : Later v.2.1 b
   ·rw [if_pos hl, if_pos hl]; exact h x
   ·rw [if_neg hl, if_neg hl]
    by_cases hc : v.1 = p.2 ∨ v.2.2.1 = true
    ·rw [if_pos hc, if_pos (hcond.1 hc)]
     have := mget_set (k := T153) rfl x (kOf v) p.1
     refine this.trans ?_
     constructor
     ·rintro (e | e)
      ·exact ⟨v, by simp, e.symm⟩
      ·obtain ⟨g, hg, hk⟩ := (h x).1 e
       exact ⟨g, by simp [hg], hk⟩
     ·rintro ⟨g, hg, hk⟩
      rcases List.mem_append.1 hg with hg | hg
      ·exact .inr ((h x).2 ⟨g, hg, hk⟩)
      ·rw [List.mem_singleton.1 hg] at hk
       exact .inl hk.symm
    ·rw [if_neg hc, if_neg fun k => hc (hcond.2 k)]
     exact h x
theorem gone_iff (b : DTime) (l : List y0q) (hne : ∀ v ∈ l, v.1 ≠ []) (x : Dka) : mgetD T153 T4 x (goneM b l) = true ↔ ∃ g ∈ goesL b l, kOf g = x :=
 gone_goes b l ([], []) ([], [], false) hne rfl (fun _ => rfl) (fun x => by simp [mgetD, mfind, Ty.zero]) x
theorem goes_sub (b : DTime) : ∀ (l : List y0q) (q : List y0q × List UInt8 × Bool), ∃ m, m.Sublist l ∧ (l.foldl (sstep b) q).1 = q.1 ++ m
 | [], q => ⟨[], .slnil, by simp⟩
 | v :: l, q => by
  obtain ⟨m, h1, h2⟩ := goes_sub b l (sstep b q v)
  simp only [List.foldl_cons]
  rw [h2]
  unfold sstep
  split
  ·exact ⟨m, h1.cons v, rfl⟩
  ·split
   ·exact ⟨v :: m, h1.cons_cons v, by simp⟩
   ·exact ⟨m, h1.cons v, rfl⟩
theorem goesL_sub (b : DTime) (l : List y0q) : (goesL b l).Sublist l := by
 obtain ⟨m, h1, h2⟩ := goes_sub b l ([], [], false)
 unfold goesL
 rw [h2]; simpa using h1
theorem filter_take {α : Type} {l : List α} {i : Nat} {z : α} (hi : i < l.length) (P : α → Bool) : (l.take (i + 1)).filter P = (l.take i).filter P ++ if P (l.getD i z) then [l.getD i z] else [] := by
 rw [← take_snoc (z := z) hi, List.filter_append]
 congr 1
 generalize l.getD i z = v
 cases h : P v <;> simp [h]
theorem implKeep (l : List y0q) (m : List (Dka × Bool)) (hl : l.length ≤ 1048576) : F_u61f l m = some (l.filter fun v => !(mgetD T153 T4 (kOf v) m)) := by
 have key : F_u61f_l0 m [] l (l.length : Int) 0 = some (l.filter fun v => !(mgetD T153 T4 (kOf v) m)) := by
  unfold F_u61f_l0
  have := y38q (B := B_u61f_l0) (fun i => (m, (l.take i).filter (fun v => !(mgetD T153 T4 (kOf v) m)), l, (l.length : Int), ((i : Nat) : Int))) l.length (some (l.filter fun v => !(mgetD T153 T4 (kOf v) m))) (fun i C hi => ?_) (fun C => ?_) (((l.length : Nat) : Int).toNat + 1) 0 (Nat.zero_le _) (by simp)
  ·simpa using this
  ·unfold B_u61f_l0
   simp (disch := omega) only [y9q, Int.toNat_natCast]
   have hle : ((l.take i).filter (fun v => !(mgetD T153 T4 (kOf v) m))).length ≤ i := Nat.le_trans (List.length_filter_le _ _) (by rw [List.length_take]; omega)
   rw [y2q (by omega), y2q (by omega), y2q (by omega), y6q, filter_take (z := y1q) hi]
   show br (!(mgetD T153 T4 (kOf (l.getD i y1q)) m)) _ _ = _
   cases hg : mgetD T153 T4 (kOf (l.getD i y1q)) m with
   | true => simp only [Bool.not_true, brF, Bool.false_eq_true, if_false, List.append_nil]
   | false =>
    simp only [Bool.not_false, brT, if_true]
    rw [y2q (by simp only [List.length_cons, List.length_nil]; unfold capN; omega)]
  ·unfold B_u61f_l0
   rw [y11q (by simp)]
   simp only [List.take_length]
 unfold F_u61f
 rw [key]; rfl
theorem eqVer (g v : y0q) : andB (eqS g.1 v.1) (andB (andB (eqI g.2.1.1 v.2.1.1) (andB (eqI g.2.1.2.1 v.2.1.2.1) true)) (andB (eqB g.2.2.1 v.2.2.1) (andB (eqS g.2.2.2.1 v.2.2.2.1) true))) = decide (g = v) := by
 show eqT T92 g v = decide (g = v)
 rw [Bool.eq_iff_iff, decide_eq_true_eq]
 exact eqK (k := T92) rfl
theorem ahead_irr (v : y0q) : ahead v v = false := by
 cases h : ahead v v with
 | false => rfl
 | true => exact absurd h (by rw [y32q.asym _ _ h]; simp)
def posOf (G : List y0q) (v : y0q) : Nat := G.findIdx fun g => !ahead g v
theorem specSkip (G l out : List y0q) (i k : Nat) (hG : G.length ≤ 1048576) (hi : i < l.length) (hk : k ≤ G.length) (hpre : ∀ j (hj : j < G.length), j < k → ahead G[j] (l.getD i y1q) = true) :
  F_u29f_l2 G l out (k : Int) (i : Int) = some (G, l, out, (posOf G (l.getD i y1q) : Int), (i : Int)) := by
 unfold F_u29f_l2
 have := idx_rounds (xs := G) (z := y1q) (p := fun g => !ahead g (l.getD i y1q)) (B := B_u29f_l2) (fun j => (G, l, out, (j : Int), (i : Int))) (fun j => (G, l, out, (j : Int), (i : Int))) (G, l, out, (G.length : Int), (i : Int)) (fun j C hj => ?_) (fun C => ?_) (((G.length : Nat) : Int).toNat + 1) k hk (by simp; omega) (fun j hj hjk => by show (!ahead G[j] (l.getD i y1q)) = false; rw [hpre j hj hjk]; rfl)
 ·rw [this]
  congr 1
  unfold posOf
  split
  ·rfl
  ·rename_i h
   have h2 := List.findIdx_le_length (p := fun g => !ahead g (l.getD i y1q)) (xs := G)
   have : G.findIdx (fun g => !ahead g (l.getD i y1q)) = G.length := by omega
   rw [this]
 ·unfold B_u29f_l2
  simp (disch := omega) only [y9q, Int.toNat_natCast]
  rw [y2q (by omega), y2q (by omega), y2q (by omega), y2q (by omega), y2q (by omega), specBefore, y6q]
  cases ahead (G.getD j y1q) (l.getD i y1q) <;> rfl
 ·unfold B_u29f_l2
  rw [y11q (by simp)]
theorem mem_pos {G : List y0q} (hG : Strict G) (v : y0q) : v ∈ G ↔ ∃ h : posOf G v < G.length, G[posOf G v] = v := by
 constructor
 ·intro hv
  obtain ⟨m, hm, he⟩ := List.mem_iff_getElem.1 hv
  have hp : (!ahead G[m] v) = true := by rw [he, ahead_irr]; rfl
  have hle : posOf G v ≤ m := by
   rcases Nat.lt_or_ge m (posOf G v) with h | h
   ·have := List.not_of_lt_findIdx (p := fun g => !ahead g v) (xs := G) h
    rw [hp] at this; cases this
   ·exact h
  rcases Nat.lt_or_ge (posOf G v) m with h | h
  ·have h1 := List.findIdx_getElem (p := fun g => !ahead g v) (xs := G) (w := by unfold posOf at h; omega)
   have h2 : Ahead (G[posOf G v]'(by omega)) G[m] := List.pairwise_iff_getElem.1 hG _ _ (by omega) hm h
   rw [he] at h2
   have h3 := y28q.2 h2
   unfold posOf at h3
   rw [h3] at h1; cases h1
  ·have : posOf G v = m := by omega
   exact ⟨by omega, by simp only [this]; exact he⟩
 ·rintro ⟨h, e⟩
  rw [← e]; exact List.getElem_mem h
theorem specKept (G l : List y0q) (hG : G.length ≤ 1048576) (hl : l.length ≤ 1048576) (sG : Strict G) (sl : Strict l) : F_u29f G l = some (l.filter fun v => decide (¬ v ∈ G)) := by
 have key : F_u29f_l0 G l [] 0 0 = some (l.filter fun v => decide (¬ v ∈ G)) := by
  unfold F_u29f_l0
  have := y38q (B := B_u29f_l0) (fun i => (G, l, (l.take i).filter (fun v => decide (¬ v ∈ G)), (((if i = 0 then 0 else posOf G (l.getD (i - 1) y1q) : Nat)) : Int), ((i : Nat) : Int))) l.length (some (l.filter fun v => decide (¬ v ∈ G))) (fun i C hi => ?_) (fun C => ?_) (((l.length : Nat) : Int).toNat + 1) 0 (Nat.zero_le _) (by simp)
  ·simpa using this
  ·unfold B_u29f_l0
   have hle : ((l.take i).filter (fun v => decide (¬ v ∈ G))).length ≤ i := Nat.le_trans (List.length_filter_le _ _) (by rw [List.length_take]; omega)
   have hskip := specSkip G l ((l.take i).filter (fun v => decide (¬ v ∈ G))) i (if i = 0 then 0 else posOf G (l.getD (i - 1) y1q)) hG hi (by split <;> first | exact Nat.zero_le _ | exact List.findIdx_le_length) (fun j hj hjk => by
    split at hjk
    ·omega
    ·rename_i h0
     have h1 := List.not_of_lt_findIdx (p := fun g => !ahead g (l.getD (i - 1) y1q)) (xs := G) hjk
     have h2 : ahead G[j] (l.getD (i - 1) y1q) = true := by simpa using h1
     have h3 := adj_strict sl (i - 1) (by omega)
     rw [show i - 1 + 1 = i from by omega] at h3
     exact y32q.trans h2 (y28q.2 h3))
   simp (disch := omega) only [y9q, Int.toNat_natCast]
   rw [y2q (by omega), hskip, y6q]
   simp (disch := omega) only [y9q, Int.toNat_natCast]
   rw [filter_take (z := y1q) hi]
   have hm := mem_pos sG (l.getD i y1q)
   have hnx : (if i + 1 = 0 then 0 else posOf G (l.getD (i + 1 - 1) y1q)) = posOf G (l.getD i y1q) := by simp
   rw [hnx]
   generalize hp : posOf G (l.getD i y1q) = p at hm ⊢
   by_cases hlt : p < G.length
   ·rw [y11q (by omega), y2q (by omega), y2q (by omega), y2q (by omega), y2q (by omega)]
    rw [show List.getD G p y1q = G[p] from y33q hlt, eqVer]
    by_cases he : G[p] = l.getD i y1q
    ·have hin : l.getD i y1q ∈ G := hm.2 ⟨hlt, he⟩
     have e1 : decide (G[p] = l.getD i y1q) = true := decide_eq_true he
     rw [e1]
     simp only [Bool.not_true, brF, hin, not_true_eq_false, decide_false, Bool.false_eq_true, if_false, List.append_nil]
    ·have hin : ¬ l.getD i y1q ∈ G := fun h => he (hm.1 h).2
     have e1 : decide (G[p] = l.getD i y1q) = false := decide_eq_false he
     rw [e1]
     simp only [Bool.not_false, brT, hin, not_false_eq_true, decide_true, if_true]
     rw [y2q (by omega), y2q (by omega), y2q (by simp only [List.length_cons, List.length_nil]; unfold capN; omega)]
   ·have hin : ¬ l.getD i y1q ∈ G := fun h => hlt (hm.1 h).1
    rw [y2q (by omega), y2q (by omega), y2q (by omega), y2q (by simp only [List.length_cons, List.length_nil]; unfold capN; omega)]
    simp only [hin, not_false_eq_true, decide_true, if_true]
  ·unfold B_u29f_l0
   rw [y11q (by simp)]
   simp only [List.take_length]
 unfold F_u29f
 rw [key]; rfl
theorem strict_tie {l : List y0q} (h : Strict l) {g v : y0q} (hg : g ∈ l) (hv : v ∈ l) (ht : Tie g v) : g = v := by
 obtain ⟨i, hi, rfl⟩ := List.mem_iff_getElem.1 hg
 obtain ⟨j, hj, rfl⟩ := List.mem_iff_getElem.1 hv
 have hp := List.pairwise_iff_getElem.1 h
 rcases Nat.lt_trichotomy i j with h | h | h
 ·exact absurd (hp i j hi hj h) ht.1
 ·subst h; rfl
 ·exact absurd (hp j i hj hi h) ht.2
def keepR (P : y0q → Bool) (r : DRun) : List DRun := if 0 < (r.1.filter P).length then [(r.1.filter P, filt (keysL (r.1.filter P)), ())] else []
theorem sml_filter {l : List y0q} (h : SmL l) (P : y0q → Bool) : SmL (l.filter P) := ⟨Nat.le_trans (List.length_filter_le _ _) h.1, fun v hv => h.2 v (List.mem_filter.1 hv).1⟩
theorem flat_take {α β : Type} {l : List α} {i : Nat} {z : α} (hi : i < l.length) (f : α → List β) : (l.take (i + 1)).flatMap f = (l.take i).flatMap f ++ f (l.getD i z) := by
 rw [← take_snoc (z := z) hi, List.flatMap_append]; simp
theorem keepR_len (P : y0q → Bool) (l : List DRun) : (l.flatMap (keepR P)).length ≤ l.length := by
 induction l with
 | nil => simp
 | cons r l ih =>
  have : (keepR P r).length ≤ 1 := by unfold keepR; split <;> simp
  simp only [List.flatMap_cons, List.length_append, List.length_cons]
  omega
theorem implRunsKept (s : y3q) (hs : Sm_Store 1048576 s) (hr : s.2.1.length ≤ 12) (Z : y3q) (m : List (Dka × Bool)) (mem : List y0q) (low : DTime) :
  F_u62f_l2 Z (m, ()) (mem, [], low, ()) s.2.1 (s.2.1.length : Int) 0 = some (Z, mem, s.2.1.flatMap (keepR fun v => !(mgetD T153 T4 (kOf v) m)), low, ()) := by
 unfold F_u62f_l2
 have := y38q (B := B_u62f_l2) (fun i => (Z, (m, ()), (mem, (s.2.1.take i).flatMap (keepR fun v => !(mgetD T153 T4 (kOf v) m)), low, ()), s.2.1, (s.2.1.length : Int), ((i : Nat) : Int))) s.2.1.length (some (Z, mem, s.2.1.flatMap (keepR fun v => !(mgetD T153 T4 (kOf v) m)), low, ())) (fun i C hi => ?_) (fun C => ?_) (((s.2.1.length : Nat) : Int).toNat + 1) 0 (Nat.zero_le _) (by simp)
 ·simpa using this
 ·unfold B_u62f_l2
  have h1 := sm_run hs i hi
  have h2 := sml_filter h1 (fun v => !(mgetD T153 T4 (kOf v) m))
  have hle : ((s.2.1.take i).flatMap (keepR fun v => !(mgetD T153 T4 (kOf v) m))).length ≤ i := Nat.le_trans (keepR_len _ _) (by rw [List.length_take]; omega)
  simp (disch := omega) only [y9q, Int.toNat_natCast]
  rw [y2q (by omega), y2q (by omega), y2q (by omega), implKeep _ _ h1.1, y6q, flat_take (z := ZRun) hi]
  by_cases h0 : 0 < ((s.2.1.getD i ZRun).1.filter fun v => !(mgetD T153 T4 (kOf v) m)).length
  ·rw [y2q (by omega), implKeys _ h2, y6q, implFilter _ (keys_of h2), y6q, y2q (by simp only [List.length_cons, List.length_nil]; unfold capN; omega)]
   unfold keepR
   rw [if_pos h0]
  ·rw [y11q (by omega)]
   unfold keepR
   rw [if_neg h0, List.append_nil]
 ·unfold B_u62f_l2
  rw [y11q (by simp)]
  simp only [List.take_length]
theorem specRunsKept (s : y3q) (hs : Sm_Store 1048576 s) (hr : s.2.1.length ≤ 12) (Z : y3q) (G : List y0q) (hG : G.length ≤ 1048576) (sG : Strict G) (hsr : ∀ i, i < s.2.1.length → Strict (s.2.1.getD i ZRun).1) (mem : List y0q) (low : DTime) :
  F_u30f_l0 s Z G (mem, [], low, ()) 0 = some (Z, mem, s.2.1.flatMap (keepR fun v => decide (¬ v ∈ G)), low, ()) := by
 unfold F_u30f_l0
 have := y38q (B := B_u30f_l0) (fun i => (s, Z, G, (mem, (s.2.1.take i).flatMap (keepR fun v => decide (¬ v ∈ G)), low, ()), ((i : Nat) : Int))) s.2.1.length (some (Z, mem, s.2.1.flatMap (keepR fun v => decide (¬ v ∈ G)), low, ())) (fun i C hi => ?_) (fun C => ?_) (((s.2.1.length : Nat) : Int).toNat + 1) 0 (Nat.zero_le _) (by simp)
 ·simpa using this
 ·unfold B_u30f_l0
  have h1 := sm_run hs i hi
  have h2 := sml_filter h1 (fun v => decide (¬ v ∈ G))
  have hle : ((s.2.1.take i).flatMap (keepR fun v => decide (¬ v ∈ G))).length ≤ i := Nat.le_trans (keepR_len _ _) (by rw [List.length_take]; omega)
  simp (disch := omega) only [y9q, Int.toNat_natCast]
  rw [y2q (by omega), y2q (by omega), y2q (by omega), specKept _ _ hG h1.1 sG (hsr i hi), y6q, flat_take (z := ZRun) hi]
  by_cases h0 : 0 < ((s.2.1.getD i ZRun).1.filter fun v => decide (¬ v ∈ G)).length
  ·rw [y2q (by omega)]
   unfold F_u24f
   rw [specKeys _ h2]
   simp only [y6q]
   rw [y2q (by simp only [List.length_cons, List.length_nil]; unfold capN; omega)]
   unfold keepR
   rw [if_pos h0]
  ·rw [y11q (by omega)]
   unfold keepR
   rw [if_neg h0, List.append_nil]
 ·unfold B_u30f_l0
  rw [y11q (by simp)]
  simp only [List.take_length]
theorem goes_same (low : DTime) (all : List y0q) (hS : Strict all) (hne : ∀ v ∈ all, v.1 ≠ []) (v : y0q) (hv : v ∈ all) : (!(mgetD T153 T4 (kOf v) (goneM low all))) = decide (¬ v ∈ goesL low all) := by
 have h := gone_iff low all hne (kOf v)
 have h2 : (∃ g ∈ goesL low all, kOf g = kOf v) ↔ v ∈ goesL low all := by
  constructor
  ·rintro ⟨g, hg, hk⟩
   have e1 : g.1 = v.1 := congrArg (fun k : Dka => k.1) hk
   have e2 : g.2.1 = v.2.1 := congrArg (fun k : Dka => k.2.1) hk
   have := strict_tie hS ((goesL_sub low all).subset hg) hv (tie_iff.2 ⟨e1, by rw [e2], by rw [e2]⟩)
   rwa [← this]
  ·intro h; exact ⟨v, h, rfl⟩
 rw [h2] at h
 by_cases hm : v ∈ goesL low all
 ·rw [h.2 hm]; simp [hm]
 ·cases hg : mgetD T153 T4 (kOf v) (goneM low all) with
  | true => exact absurd (h.1 hg) hm
  | false => simp [hm]
theorem filter_same {P Q : y0q → Bool} {l : List y0q} (h : ∀ v ∈ l, P v = Q v) : l.filter P = l.filter Q := List.filter_congr h
theorem keepR_same {P Q : y0q → Bool} : ∀ {l : List DRun}, (∀ r ∈ l, ∀ v ∈ r.1, P v = Q v) → l.flatMap (keepR P) = l.flatMap (keepR Q)
 | [], _ => rfl
 | r :: l, h => by
  have h1 : r.1.filter P = r.1.filter Q := filter_same fun v hv => h r (by simp) v hv
  have h2 : keepR P r = keepR Q r := by unfold keepR; rw [h1]
  simp only [List.flatMap_cons]
  rw [h2, keepR_same fun r hr v hv => h r (by simp [hr]) v hv]
theorem collect_same (s : y3q) (hs : Sm_Store 1048576 s) (b : DTime) (hb : Sm_Time 1048576 b) : ∃ r, F_u30f s b = some r ∧ F_u62f s b = some r ∧ Sm_Store 1048576 r.1 := by
 have hz : Sm_Store 1048576 ([], [], (0, 0, ()), ()) := ⟨⟨Nat.zero_le _, fun y hy => by cases hy⟩, ⟨Nat.zero_le _, fun y hy => by cases hy⟩, by unfold Sm_Time Rng; decide⟩
 unfold F_u30f F_u62f
 by_cases hok : OKP s
 case neg => rw [(specOK s hs).2 hok, (implOK s hs).2 hok]; exact ⟨_, rfl, rfl, hz⟩
 rw [(specOK s hs).1 hok, (implOK s hs).1 hok]
 show ∃ r, bnd _ _ = some r ∧ bnd _ _ = some r ∧ _
 by_cases ht : TimeP b
 case neg => rw [(y94q b).2 ht, (y93q b).2 ht]; exact ⟨_, rfl, rfl, hz⟩
 rw [(y94q b).1 ht, (y93q b).1 ht, specTime, implTime]
 show ∃ r, br _ _ _ = some r ∧ br _ _ _ = some r ∧ _
 by_cases h3 : tcmp b s.2.2.1 < 0
 ·rw [y2q h3, y2q h3]; exact ⟨_, rfl, rfl, hz⟩
 rw [y11q h3, y11q h3]
 obtain ⟨o1, o2, o3, o4, o5, o6⟩ := hok
 obtain ⟨t1, t2⟩ := okp_srt o4 o5
 have hall : y73q s = stab ahead (rawAll s) := both_all s ((y101q s t1 t2).2 o6) o6
 have hlen : (stab ahead (rawAll s)).length = (rawAll s).length := y26q _
 have hS := specAll s (by omega) (by omega)
 rw [hall] at hS
 have hG : (goesL b (stab ahead (rawAll s))).length ≤ 1048576 := by
  have := (goesL_sub b (stab ahead (rawAll s))).length_le; omega
 have sG : Strict (goesL b (stab ahead (rawAll s))) := o6.sublist (goesL_sub b _)
 have h0 : s.1.length ≤ 1048576 := hs.1.1
 have hmem : ∀ v ∈ rawAll s, VerP v := by
  intro v hv
  rcases List.mem_append.1 hv with hv | hv
  ·exact (listP_iff.1 o4).1 v hv
  ·obtain ⟨r, hr, hv⟩ := List.mem_flatMap.1 hv
   obtain ⟨i, hi, rfl⟩ := List.mem_iff_getElem.1 hr
   have := (o5 i hi).2.1
   rw [y33q hi] at this
   exact (listP_iff.1 this).1 v hv
 have hne : ∀ v ∈ stab ahead (rawAll s), v.1 ≠ [] := fun v hv e => by
  have := (hmem v ((y39q _).mem_iff.1 hv)).1
  rw [e] at this; simp at this
 have hsame : ∀ v ∈ rawAll s, (!(mgetD T153 T4 (kOf v) (goneM b (stab ahead (rawAll s))))) = decide (¬ v ∈ goesL b (stab ahead (rawAll s))) := fun v hv => goes_same b _ o6 hne v ((y39q _).mem_iff.2 hv)
 rw [implAll s (by omega) (by omega), y6q, implGone s b _ _ (by omega), y6q, implKeep _ _ h0, y6q, implRunsKept s hs o2, y6q]
 rw [hS, y6q, specGoes _ b (by omega), y6q, specKept _ _ hG h0 sG (y35q o4), y6q, specRunsKept s hs o2 _ _ hG sG (fun i hi => y35q (o5 i hi).2.1), y6q]
 have e1 : (s.1.filter fun v => !(mgetD T153 T4 (kOf v) (goneM b (stab ahead (rawAll s))))) = s.1.filter fun v => decide (¬ v ∈ goesL b (stab ahead (rawAll s))) := filter_same fun v hv => hsame v (List.mem_append_left _ hv)
 have e2 : s.2.1.flatMap (keepR fun v => !(mgetD T153 T4 (kOf v) (goneM b (stab ahead (rawAll s))))) = s.2.1.flatMap (keepR fun v => decide (¬ v ∈ goesL b (stab ahead (rawAll s)))) := keepR_same fun r hr v hv => hsame v (List.mem_append_right _ (List.mem_flatMap.2 ⟨r, hr, hv⟩))
 rw [e1, e2]
 refine ⟨_, rfl, rfl, ?_, ?_, ?_⟩
 ·exact sml_filter hs.1 _
 ·refine ⟨Nat.le_trans (keepR_len _ _) hs.2.1.1, fun y hy => ?_⟩
  obtain ⟨r, hr, hy⟩ := List.mem_flatMap.1 hy
  unfold keepR at hy
  split at hy
  ·rw [List.mem_singleton.1 hy]
   exact ⟨sml_filter (hs.2.1.2 r hr).1 _, filt_len _⟩
  ·cases hy
 ·exact hb
end Go.Ev.T1
