import Derived.Test.YtfdmjgmipnohkaaSrF
import Derived.Test.YtfdmjgmipnohkaaSrEvH
import Derived.Test.YtfdmjgmipnohkaaSrEvG
set_option linter.unusedSimpArgs false
set_option linter.unusedVariables false
namespace Go.Ev.T1
open Go Go.Proofs
theorem bl_cons (a b : UInt8) (x y : List UInt8) : Op.bytesLess (a :: x) (b :: y) = true ↔ a.toNat < b.toNat ∨ (a = b ∧ Op.bytesLess x y = true) := by
 simp only [Op.bytesLess, Bool.or_eq_true, Bool.and_eq_true, decide_eq_true_eq, beq_iff_eq, UInt8.lt_iff_toNat_lt]
theorem u8_eq {a b : UInt8} : a = b ↔ a.toNat = b.toNat := ⟨fun h => by rw [h], fun h => UInt8.toNat_inj.1 h⟩
theorem bl_irr : ∀ x : List UInt8, ¬ Op.bytesLess x x = true
 | [] => by simp [Op.bytesLess]
 | a :: x => by
  rw [bl_cons]
  rintro (h | ⟨_, h⟩)
  ·omega
  ·exact bl_irr x h
theorem bl_trans : ∀ x y z : List UInt8, Op.bytesLess x y = true → Op.bytesLess y z = true → Op.bytesLess x z = true
 | [], [], _, h, _ => by simp [Op.bytesLess] at h
 | [], _ :: _, [], _, h => by simp [Op.bytesLess] at h
 | [], _ :: _, _ :: _, _, _ => by simp [Op.bytesLess]
 | _ :: _, [], _, h, _ => by simp [Op.bytesLess] at h
 | _ :: _, _ :: _, [], _, h => by simp [Op.bytesLess] at h
 | a :: x, b :: y, c :: z, h, k => by
  rw [bl_cons] at h k ⊢
  rcases h with h | ⟨rfl, h⟩ <;> rcases k with k | ⟨rfl, k⟩
  ·exact .inl (by omega)
  ·exact .inl h
  ·exact .inl k
  ·exact .inr ⟨rfl, bl_trans x y z h k⟩
theorem bl_tri : ∀ x y : List UInt8, Op.bytesLess x y = true ∨ x = y ∨ Op.bytesLess y x = true
 | [], [] => .inr (.inl rfl)
 | [], _ :: _ => .inl (by simp [Op.bytesLess])
 | _ :: _, [] => .inr (.inr (by simp [Op.bytesLess]))
 | a :: x, b :: y => by
  rw [bl_cons, bl_cons]
  rcases Nat.lt_trichotomy a.toNat b.toNat with h | h | h
  ·exact .inl (.inl h)
  ·have := u8_eq.2 h
   subst this
   rcases bl_tri x y with h | h | h
   ·exact .inl (.inr ⟨rfl, h⟩)
   ·exact .inr (.inl (by rw [h]))
   ·exact .inr (.inr (.inr ⟨rfl, h⟩))
  ·exact .inr (.inr (.inl h))
def Later (a b : DTime) : Prop := a.1 > b.1 ∨ (a.1 = b.1 ∧ a.2.1 > b.2.1)
instance (a b : DTime) : Decidable (Later a b) := by unfold Later; infer_instance
def tcmp (a b : DTime) : Int := if Later a b then 1 else if Later b a then -1 else 0
theorem lat {a b : DTime} : Later a b ↔ a.1 > b.1 ∨ (a.1 = b.1 ∧ a.2.1 > b.2.1) := Iff.rfl
theorem implTime (a b : DTime) : F_u38f a b = some (tcmp a b) := by
 have l1 := @lat a b
 have l2 := @lat b a
 unfold F_u38f F_u37f tcmp
 by_cases h1 : a.1 < b.1
 ·rw [y2q h1, if_neg (by rw [l1]; omega), if_pos (by rw [l2]; omega)]; rfl
 ·by_cases h2 : a.1 > b.1
  ·rw [y11q h1, y2q h2, if_pos (by rw [l1]; omega)]; rfl
  ·by_cases h3 : a.2.1 < b.2.1
   ·rw [y11q h1, y11q h2, y2q h3, if_neg (by rw [l1]; omega), if_pos (by rw [l2]; omega)]; rfl
   ·by_cases h4 : a.2.1 > b.2.1
    ·rw [y11q h1, y11q h2, y11q h3, y2q h4, if_pos (by rw [l1]; omega)]; rfl
    ·rw [y11q h1, y11q h2, y11q h3, y11q h4, if_neg (by rw [l1]; omega), if_neg (by rw [l2]; omega)]; rfl
theorem specTime (a b : DTime) : F_u5f a b = some (tcmp a b) := by
 have l1 := @lat a b
 have l2 := @lat b a
 unfold F_u5f F_u4f tcmp
 simp only [bne_dec]
 by_cases h1 : a.1 < b.1
 ·rw [y2q (show ¬ a.1 = b.1 by omega), y2q h1, if_neg (by rw [l1]; omega), if_pos (by rw [l2]; omega)]; rfl
 ·by_cases h2 : a.1 > b.1
  ·rw [y2q (show ¬ a.1 = b.1 by omega), y11q h1, y2q h2, if_pos (by rw [l1]; omega)]; rfl
  ·rw [y11q (show ¬ ¬ a.1 = b.1 by omega)]
   by_cases h3 : a.2.1 < b.2.1
   ·rw [y2q h3, if_neg (by rw [l1]; omega), if_pos (by rw [l2]; omega)]; rfl
   ·by_cases h4 : a.2.1 > b.2.1
    ·rw [y11q h3, y2q h4, if_pos (by rw [l1]; omega)]; rfl
    ·rw [y11q h3, y11q h4, if_neg (by rw [l1]; omega), if_neg (by rw [l2]; omega)]; rfl
theorem y121q {a b : DTime} : tcmp a b > 0 ↔ Later a b := by
 unfold tcmp; split
 ·rename_i h; simp [h]
 ·rename_i h; split <;> simp [h]
theorem tcmp_neg {a b : DTime} : tcmp a b < 0 ↔ Later b a := by
 unfold tcmp; split
 ·rename_i h; unfold Later at *; constructor
  ·intro h'; simp at h'
  ·intro h'; omega
 ·rename_i h; split <;> rename_i h2 <;> simp [h2]
def Ahead (a b : y0q) : Prop := Op.bytesLess a.1 b.1 = true ∨ (a.1 = b.1 ∧ Later a.2.1 b.2.1)
instance (a b : y0q) : Decidable (Ahead a b) := by unfold Ahead; infer_instance
def ahead (a b : y0q) : Bool := decide (Ahead a b)
theorem y28q {a b : y0q} : ahead a b = true ↔ Ahead a b := by simp [ahead]
theorem implBefore (a b : y0q) : F_u39f a b = some (ahead a b) := by
 unfold F_u39f
 simp only [y57q, implTime]
 by_cases h1 : Op.bytesLess a.1 b.1 = true
 ·rw [y28q.2 (.inl h1), h1]; rfl
 ·rw [br_bool, y11q h1]
  by_cases h2 : a.1 = b.1
  ·rw [y2q h2]
   show some (decide (tcmp a.2.1 b.2.1 > 0)) = _
   congr 1
   rw [Bool.eq_iff_iff, y28q, decide_eq_true_iff, y121q]
   exact ⟨fun h => .inr ⟨h2, h⟩, fun h => (h.resolve_left h1).2⟩
  ·rw [y11q h2]
   have : ahead a b = false := by
    rw [Bool.eq_false_iff, ne_eq, y28q]
    rintro (h | ⟨h, _⟩)
    ·exact h1 h
    ·exact h2 h
   rw [this]
theorem specBefore (a b : y0q) : F_u6f a b = some (ahead a b) := by
 unfold F_u6f
 simp only [y57q, not_dec, specTime]
 by_cases h2 : a.1 = b.1
 ·rw [y11q (show ¬ ¬ a.1 = b.1 from fun h => h h2)]
  show some (decide (tcmp a.2.1 b.2.1 > 0)) = _
  congr 1
  rw [Bool.eq_iff_iff, y28q, decide_eq_true_iff, y121q]
  refine ⟨fun h => .inr ⟨h2, h⟩, fun h => ?_⟩
  rcases h with h | h
  ·rw [h2] at h; exact absurd h (bl_irr _)
  ·exact h.2
 ·rw [y2q h2]
  congr 1
  rw [Bool.eq_iff_iff, y28q]
  exact ⟨.inl, fun h => h.resolve_right fun h => h2 h.1⟩
theorem y32q : Weak ahead := by
 refine ⟨fun a b h => ?_, fun a b c h1 h2 => ?_⟩
 ·rw [y28q] at h
  rw [Bool.eq_false_iff, ne_eq, y28q]
  unfold Ahead Later at *
  rintro (k | ⟨k, k2⟩)
  ·rcases h with h | ⟨h, h2⟩
   ·exact bl_irr _ (bl_trans _ _ _ h k)
   ·rw [h] at k; exact bl_irr _ k
  ·rcases h with h | ⟨h, h2⟩
   ·rw [k] at h; exact bl_irr _ h
   ·omega
 ·rw [Bool.eq_false_iff, ne_eq, y28q] at h1 h2 ⊢
  intro h
  rcases bl_tri a.1 b.1 with g | g | g
  ·exact h1 (.inl g)
  ·rcases bl_tri b.1 c.1 with g' | g' | g'
   ·exact h2 (.inl g')
   ·rcases h with h | ⟨_, h⟩
    ·rw [g, g'] at h; exact bl_irr _ h
    ·have k1 : ¬ Later a.2.1 b.2.1 := fun k => h1 (.inr ⟨g, k⟩)
     have k2 : ¬ Later b.2.1 c.2.1 := fun k => h2 (.inr ⟨g', k⟩)
     rw [lat] at h k1 k2
     omega
   ·unfold Ahead at h
    rcases h with h | ⟨h, _⟩
    ·rw [g] at h; exact bl_irr _ (bl_trans _ _ _ h g')
    ·rw [← h, g] at g'; exact bl_irr _ g'
  ·rcases bl_tri b.1 c.1 with g' | g' | g'
   ·exact h2 (.inl g')
   ·unfold Ahead at h
    rcases h with h | ⟨h, _⟩
    ·rw [← g'] at h; exact bl_irr _ (bl_trans _ _ _ h g)
    ·rw [h, g'] at g; exact bl_irr _ g
   ·unfold Ahead at h
    rcases h with h | ⟨h, _⟩
    ·exact bl_irr _ (bl_trans _ _ _ h (bl_trans _ _ _ g' g))
    ·rw [h] at g; exact bl_irr _ (bl_trans _ _ _ g' g)
theorem y38q {T X : Type} {B : T → (T → Option X) → Option X} (emb : Nat → T) (N : Nat) (out : Option X) (hstep : ∀ i C, i < N → B (emb i) C = C (emb (i + 1))) (hend : ∀ C, B (emb N) C = out) : ∀ n i, i ≤ N → N < n + i → forG B n (emb i) = out
 | 0, i, h1, h2 => absurd h1 (by omega)
 | n + 1, i, h1, h2 => by
  simp only [forG]
  by_cases hi : i < N
  ·rw [hstep i _ hi]; exact y38q emb N out hstep hend n (i + 1) hi (by omega)
  ·have : i = N := by omega
   subst this; exact hend _
end Go.Ev.T1
