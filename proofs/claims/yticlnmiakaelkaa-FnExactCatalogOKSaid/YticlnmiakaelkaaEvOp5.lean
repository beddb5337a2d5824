/- Slices: cut, made, appended to. -/
import Derived.Test.YticlnmiakaelkaaEvOp4
import Derived.Lib.Strings
set_option linter.unusedSimpArgs false
set_option linter.unusedVariables false
namespace Go.Ev
open Go.RowKit (Below)

section
variable {P : Program} {w0 : World} {G0 : Nat → Prop} {N : Nat} {F : List (Nat × Obj)} {m : St} {e : Env} {a : Act} {Γ : Tab} {ρ : Type}

theorem bound_val (hR : Rel w0 G0 N F m e a.tmps) {o : Option Operand} {n : Option Int} (h : bound e o = some n) : match n with
    | none => o = none
    | some i => ∃ x k, o = some x ∧ a.eval x = .int k i := by
  unfold bound at h
  cases o with
  | none => simp only [Option.some.injEq] at h; subst h; rfl
  | some x =>
    simp only at h
    cases hx : e.one x with
    | none => simp [hx] at h
    | some v =>
      have hl := one_lv hR hx
      cases v with
      | i k i => simp only [hx, Option.some.injEq] at h; subst h; exact ⟨x, k, rfl, hl⟩
      | _ => simp [hx] at h

/-- A piece of a view. -/
theorem val_piece {w : World} {G : Nat → Prop} {t : Ty} {xs : List t.den} {A : Option Addr} {n c : Nat} (h : Val w G (.sl t) xs [.slice A n c]) {l h' mx : Nat} (h1 : l ≤ h') (h2 : h' ≤ n) (hm : mx = c) :
    Val w G (.sl t) ((xs.take h').drop l) [sliced A l h' mx t.size] := by
  subst hm
  obtain ⟨A', n', c', e1, hl, hc, hel⟩ := h
  simp only [List.cons.injEq, Value.slice.injEq, and_true] at e1
  obtain ⟨rfl, rfl, rfl⟩ := e1
  refine ⟨_, _, _, rfl, by simp; omega, by omega, fun j hj => ?_⟩
  simp only [List.length_drop, List.length_take] at hj
  obtain ⟨a, cs', rfl, hs, hg, hcs, hv⟩ := hel (l + j) (by omega)
  have hne : ¬ mx = l := by omega
  refine ⟨a.add (l * t.size), cs', by simp [hne], ?_, ?_, ?_, ?_⟩
  · rw [addr_eta hs, addr_add]
  · rw [addr_eta hs, addr_add]; exact hg
  · rw [addr_eta hs, addr_add]
    rw [Nat.add_mul] at hcs
    simpa [Nat.add_assoc] using hcs
  · have : ((xs.take h').drop l).getD j t.zero = xs.getD (l + j) t.zero := by
      simp only [List.getD_eq_getElem?_getD, List.getElem?_drop, List.getElem?_take]
      rw [if_pos (by omega)]
    rw [this]; exact hv

theorem sliceN_sound (hΓ : TabOk P Γ) {T : Nat} {ti : TI} (hf : find Γ T = some ti) {t : Ty} (ht : ti.ty = .sl t) {xs : List t.den} {v : Value} (hv : Val m.w m.G (.sl t) xs [v])
    (hR : Rel w0 G0 N F m e a.tmps) {lo hi : Option Operand} {l h : Option Int} (hl : bound e lo = some l) (hh : bound e hi = some h) {K : SV → Option ρ} {r : ρ}
    (hk : evSliceN t xs l h K = some r) : ∃ sv z, (Instr.sliceAt T v (lo.map a.eval) (hi.map a.eval) none).run P m.w = .ok z m.w ∧ Sv m sv z ∧ K sv = some r := by
  obtain ⟨hu, _, tj, _, _, inf, z, cs, hi', hsz, _⟩ := elem_info hΓ hf ht
  obtain ⟨A, n, c, e1, hlen, hc, hel⟩ := id hv
  simp only [List.cons.injEq, and_true] at e1
  subst e1
  have hel' : P.elem T = ti.elem := by simp [Program.elem, hu]
  have hu' : P.underlying T = some (.slice (P.elem T)) := by rw [hel']; exact hu
  have hs : ∀ w, (sizeOf (P.elem T)).run P w = .ok t.size w := by
    intro w
    rw [hel']
    simp [sizeOf, typeInfo, hi', hsz]
  have b1 := bound_val hR hl
  have b2 := bound_val hR hh
  rw [run_sliceAt_slice m.w T _ _ _ _ hu']
  cases l with
  | none =>
    simp only at b1
    subst b1
    cases h with
    | none =>
      simp only at b2
      subst b2
      simp only [evSliceN] at hk
      refine ⟨.one (.sl t xs), sliced A 0 n c t.size, ?_, ?_, hk⟩
      · simp only [Option.map_none]
        rw [run_slice_all m.w T A n c hu', hs]
        rfl
      · have := val_piece (l := 0) (h' := n) hv (Nat.zero_le _) (Nat.le_refl _) rfl
        simp only [List.drop_zero] at this
        rw [List.take_of_length_le (by omega)] at this
        exact this
    | some h =>
      obtain ⟨x, k, rfl, hx⟩ := b2
      simp only [evSliceN] at hk
      obtain ⟨k1, hk⟩ := chk_dec hk
      obtain ⟨k2, hk⟩ := chk_dec hk
      refine ⟨.one (.sl t (xs.take h.toNat)), sliced A 0 h.toNat c t.size, ?_, ?_, hk⟩
      · simp only [Option.map_none, Option.map_some, hx]
        rw [run_slice_h m.w T A n c hu' k h k1 (by omega), hs]
        rfl
      · have := val_piece (l := 0) (h' := h.toNat) hv (Nat.zero_le _) (by omega) rfl
        simp only [List.drop_zero] at this
        exact this
  | some l =>
    obtain ⟨x, k, rfl, hx⟩ := b1
    cases h with
    | none =>
      simp only at b2
      subst b2
      simp only [evSliceN] at hk
      obtain ⟨k1, hk⟩ := chk_dec hk
      obtain ⟨k2, hk⟩ := chk_dec hk
      refine ⟨.one (.sl t (xs.drop l.toNat)), sliced A l.toNat n c t.size, ?_, ?_, hk⟩
      · simp only [Option.map_none, Option.map_some, hx]
        rw [run_slice_l m.w T A n c hu' k l k1 (by omega), hs]
        rfl
      · have := val_piece (l := l.toNat) (h' := n) hv (by omega) (Nat.le_refl _) rfl
        rw [List.take_of_length_le (by omega)] at this
        exact this
    | some h =>
      obtain ⟨y, k', rfl, hy⟩ := b2
      simp only [evSliceN] at hk
      obtain ⟨k1, hk⟩ := chk_dec hk
      obtain ⟨k2, hk⟩ := chk_dec hk
      obtain ⟨k3, hk⟩ := chk_dec hk
      refine ⟨.one (.sl t ((xs.take h.toNat).drop l.toNat)), sliced A l.toNat h.toNat c t.size, ?_, ?_, hk⟩
      · simp only [Option.map_some, hx, hy]
        rw [run_slice_lh m.w T A n c hu' k k' l h k1 k2 (by omega), hs]
        rfl
      · exact val_piece (l := l.toNat) (h' := h.toNat) hv (by omega) (by omega) rfl

theorem extract_list (s : ByteArray) (l h : Nat) : (s.extract l h).data.toList = (s.data.toList.take h).drop l := by
  rw [Lib.extract_data, List.drop_take]

theorem sliceS_sound (hΓ : TabOk P Γ) {T : Nat} {ti : TI} (hf : find Γ T = some ti) (ht : ti.ty = .str) {s : ByteArray}
    (hR : Rel w0 G0 N F m e a.tmps) {lo hi : Option Operand} {l h : Option Int} (hl : bound e lo = some l) (hh : bound e hi = some h) {K : SV → Option ρ} {r : ρ}
    (hk : evSliceS s.data.toList l h K = some r) : ∃ sv z, (Instr.sliceAt T (.string s) (lo.map a.eval) (hi.map a.eval) none).run P m.w = .ok z m.w ∧ Sv m sv z ∧ K sv = some r := by
  have hu := (hΓ T ti hf).str ht
  have b1 := bound_val hR hl
  have b2 := bound_val hR hh
  rw [run_sliceAt_string m.w T _ _ _ _ hu]
  have hsz := ba_size s
  cases l with
  | none =>
    simp only at b1
    subst b1
    cases h with
    | none =>
      simp only at b2
      subst b2
      simp only [evSliceS] at hk
      refine ⟨.one (.s s.data.toList), _, run_slice_string_all m.w T s hu, ⟨_, rfl, ?_⟩, hk⟩
      rw [extract_list, hsz, List.take_of_length_le (Nat.le_refl _)]
      rfl
    | some h =>
      obtain ⟨x, k, rfl, hx⟩ := b2
      simp only [evSliceS] at hk
      obtain ⟨k1, hk⟩ := chk_dec hk
      obtain ⟨k2, hk⟩ := chk_dec hk
      refine ⟨.one (.s (s.data.toList.take h.toNat)), .string (s.extract 0 h.toNat), ?_, ⟨_, rfl, ?_⟩, hk⟩
      · simp only [Option.map_none, Option.map_some, hx]
        exact run_slice_string_h m.w T s hu k h k1 (by omega)
      · rw [extract_list]; rfl
  | some l =>
    obtain ⟨x, k, rfl, hx⟩ := b1
    cases h with
    | none =>
      simp only at b2
      subst b2
      simp only [evSliceS] at hk
      obtain ⟨k1, hk⟩ := chk_dec hk
      obtain ⟨k2, hk⟩ := chk_dec hk
      refine ⟨.one (.s (s.data.toList.drop l.toNat)), .string (s.extract l.toNat s.size), ?_, ⟨_, rfl, ?_⟩, hk⟩
      · simp only [Option.map_none, Option.map_some, hx]
        exact run_slice_string_l m.w T s hu k l k1 (by omega)
      · rw [extract_list, hsz, List.take_of_length_le (Nat.le_refl _)]
    | some h =>
      obtain ⟨y, k', rfl, hy⟩ := b2
      simp only [evSliceS] at hk
      obtain ⟨k1, hk⟩ := chk_dec hk
      obtain ⟨k2, hk⟩ := chk_dec hk
      obtain ⟨k3, hk⟩ := chk_dec hk
      refine ⟨.one (.s ((s.data.toList.take h.toNat).drop l.toNat)), .string (s.extract l.toNat h.toNat), ?_, ⟨_, rfl, ?_⟩, hk⟩
      · simp only [Option.map_some, hx, hy]
        have k4 : h ≤ s.size := by omega
        have k5 : 0 ≤ h := by omega
        have eh : (h.toNat : Int) = h := Int.toNat_of_nonneg k5
        simp [Instr.slice, run_underlying hu, Instr.sliceBounds, run_sliceBound, k1, k2, k4, k5, eh]
      · rw [extract_list]
end
end Go.Ev
