/- Analyze: ValueOK: the reference's and the program's. -/
import Derived.Test.YtfdmjgmipnohkaaAnSz
import Derived.Test.YtfdmjgmipnohkaaAnEvH
set_option linter.unusedSimpArgs false
set_option linter.unusedVariables false
set_option maxRecDepth 100000
namespace Go.Ev.T1
open Go Go.Proofs
def Prn (s : List UInt8) : Prop := ∀ i, i < s.length → 32 ≤ (s.getD i 0).toNat ∧ (s.getD i 0).toNat ≤ 126
theorem specPrn (s : List UInt8) (hl : s.length ≤ 1048576) : Ans (F_spec_l01Printable s) (some true) (some false) (Prn s) := by
  unfold F_spec_l01Printable F_spec_l01Printable_l0
  refine ans_bnd_end (a := .inl ()) (b := .inr false) (ans_loop (fun i => (s, ((i : Nat) : Int))) s.length (fun i => 32 ≤ (s.getD i 0).toNat ∧ (s.getD i 0).toNat ≤ 126) (fun i C hi hb => ?_) (fun C _ => ?_) (by omega)) rfl rfl
  · unfold B_spec_l01Printable_l0
    simp (disch := omega) only [wrap_succ, Int.toNat_natCast]
    refine ans_iff (ans_chk (by omega) (ans_chk (by omega) (ans_chk (by omega) (ans_br_no fun _ => ans_chk (by omega) (ans_chk (by omega) (ans_br_no fun _ => ans_yes)))))) ?_
    simp only [and_true]
    omega
  · unfold B_spec_l01Printable_l0
    exact br_neg (by simp) _ _
theorem implPrn (s : List UInt8) (hl : s.length ≤ 1048576) : Ans (F_impl_printable s) (some true) (some false) (Prn s) := by
  unfold F_impl_printable F_impl_printable_l0
  refine ans_bnd_end (a := .inl ()) (b := .inr false) (ans_loop (fun i => (s, ((i : Nat) : Int))) s.length (fun i => 32 ≤ (s.getD i 0).toNat ∧ (s.getD i 0).toNat ≤ 126) (fun i C hi hb => ?_) (fun C _ => ?_) (by omega)) rfl rfl
  · unfold B_impl_printable_l0
    simp (disch := omega) only [wrap_succ, Int.toNat_natCast]
    refine ans_iff (ans_chk (by omega) (ans_chk (by omega) (ans_chk (by omega) (ans_br_no fun _ => ans_chk (by omega) (ans_chk (by omega) (ans_br_no fun _ => ans_yes)))))) ?_
    simp only [and_true]
    omega
  · unfold B_impl_printable_l0
    exact br_neg (by simp) _ _
/-- a value in order -/
def VOK (a : DValue) : Prop :=
  (a.1 = 0 ∧ a.2.1 = 0 ∧ a.2.2.1 = 0 ∧ a.2.2.2.1 = []) ∨ (a.1 = 1 ∧ 0 ≤ a.2.1 ∧ a.2.1 ≤ 1 ∧ a.2.2.1 = 0 ∧ a.2.2.2.1 = []) ∨
  (a.1 = 2 ∧ -1000000000000000 ≤ a.2.1 ∧ a.2.1 ≤ 1000000000000000 ∧ a.2.2.1 = 0 ∧ a.2.2.2.1 = []) ∨
  (a.1 = 3 ∧ -1000000000 ≤ a.2.1 ∧ a.2.1 ≤ 1000000000 ∧ 0 ≤ a.2.2.1 ∧ a.2.2.1 ≤ 6 ∧ (a.2.2.1 = 0 ∨ Int.tmod a.2.1 10 ≠ 0) ∧ a.2.2.2.1 = []) ∨
  (a.1 = 4 ∧ a.2.1 = 0 ∧ a.2.2.1 = 0 ∧ Prn a.2.2.2.1 ∧ a.2.2.2.1.length ≤ 200) ∨ (a.1 = 5 ∧ 0 ≤ a.2.1 ∧ a.2.1 ≤ 3652058 ∧ a.2.2.1 = 0 ∧ a.2.2.2.1 = [])
theorem len_pos {α : Type} (s : List α) : ((s.length : Int) > 0 ↔ ¬ s = []) := by
  cases s <;> simp <;> omega
theorem implValue (a : DValue) (hl : a.2.2.2.1.length ≤ 1048576) : Ans (F_impl_ValueOK a) (some true) (some false) (VOK a) := by
  unfold F_impl_ValueOK
  simp only [beq_dec, bne_dec, not_dec, eqI_dec, eqS_dec, andB_true, andB_dec]
  refine ans_iff (ans_br (fun h0 => ans_decide) fun h0 => ans_br (fun h1 => ans_br_no fun _ => ans_br_no fun _ => ans_decide) fun h1 => ans_br (fun h2 => ans_br_no fun _ => ans_br_no fun _ => ans_decide) fun h2 =>
    ans_br (fun h3 => ans_br_no fun _ => ans_br_no fun _ => ans_br_no fun _ => ans_br_no fun _ => ans_br (fun _ => ans_chk (by decide) (ans_br_no fun _ => ans_decide)) fun _ => ans_decide) fun h3 =>
    ans_br (fun h4 => ans_br_no fun _ => ans_bnd_no (implPrn _ hl) rfl fun _ => ans_decide) fun h4 => ans_br_no' fun h5 => ans_br_no fun _ => ans_br_no fun _ => ans_decide) ?_
  unfold VOK
  generalize a.1 = k
  generalize a.2.1 = n
  generalize a.2.2.1 = c
  generalize a.2.2.2.1 = s
  have e : ((s.length : Int) > 200) ↔ ¬ s.length ≤ 200 := by omega
  rw [e]
  by_cases k0 : k = 0
  · subst k0; simp
  by_cases k1 : k = 1
  · subst k1; simp <;> grind
  by_cases k2 : k = 2
  · subst k2; simp <;> grind
  by_cases k3 : k = 3
  · subst k3
    simp
    by_cases c0 : c = 0
    · subst c0; simp
    · simp [c0]
      by_cases c1 : 0 < c
      · simp [c1] <;> grind
      · simp [c1] <;> grind
  by_cases k4 : k = 4
  · subst k4; simp; constructor
    · rintro ⟨a, b, c, d⟩; exact ⟨c, d, b, a⟩
    · rintro ⟨c, d, b, a⟩; exact ⟨a, b, c, d⟩
  · simp [k0, k1, k2, k3, k4]
theorem specValue (a : DValue) (hl : a.2.2.2.1.length ≤ 1048576) : Ans (F_spec_ValueOK a) (some true) (some false) (VOK a) := by
  unfold F_spec_ValueOK
  simp only [beq_dec, bne_dec, not_dec]
  refine ans_iff (ans_bnd_no (Y := DValue ⊕ Bool) (a := .inl a) (b := .inr false) (ans_br (fun h4 => ans_br_no fun _ => ans_br (fun h3 => ans_br_no fun _ => ans_yes) fun h3 => ans_yes) fun h4 => ans_br (fun h3 => ans_br_no fun _ => ans_yes) fun h3 => ans_yes) rfl fun _ =>
    ans_br (fun h0 => ans_decide) fun h0 => ans_br (fun h1 => ans_br_yes fun _ => ans_decide) fun h1 => ans_br (fun h2 => ans_br_no' fun _ => ans_decide) fun h2 =>
    ans_br (fun h3 => ans_br_no' fun _ => ans_br_no' fun _ => ans_br_no' fun _ => ans_br_no' fun _ => ans_br_yes fun _ => ans_chk (by decide) ans_decide) fun h3 =>
    ans_br (fun h5 => ans_br_no' fun _ => ans_decide) fun h5 => ans_br_no' fun h4 => ans_br_no' fun _ => ans_bnd_no (specPrn _ hl) rfl fun _ => ans_decide) ?_
  unfold VOK
  simp only [len_pos]
  generalize a.1 = k
  generalize a.2.1 = n
  generalize a.2.2.1 = c
  generalize a.2.2.2.1 = s
  have e : ((s.length : Int) ≤ 200) ↔ s.length ≤ 200 := by omega
  rw [e]
  by_cases k0 : k = 0
  · subst k0; simp <;> grind
  by_cases k1 : k = 1
  · subst k1; simp <;> grind
  by_cases k2 : k = 2
  · subst k2; simp <;> grind
  by_cases k3 : k = 3
  · subst k3; simp <;> grind
  by_cases k4 : k = 4
  · subst k4; simp <;> grind
  by_cases k5 : k = 5
  · subst k5; simp <;> grind
  · simp [k0, k1, k2, k3, k4, k5]
end Go.Ev.T1
