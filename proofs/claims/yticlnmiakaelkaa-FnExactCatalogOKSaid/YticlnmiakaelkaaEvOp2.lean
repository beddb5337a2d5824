/- Loads and stores. -/
import Derived.Test.YticlnmiakaelkaaEvOp1
import Derived.Laws.CopyRow
set_option linter.unusedSimpArgs false
set_option linter.unusedVariables false
namespace Go.Ev
open Go.RowKit (Below)

theorem cells_of_heap {w : World} {b : Nat} {cs : List Value} {T : Nat} {fr : Nat × Nat} (h : w.heap[b]? = some (.cells cs.toArray T fr)) : CellsAt w b 0 cs := by
  intro j v hv
  simp only [World.cell?, h, Nat.zero_add]
  simpa using hv
theorem cellsAt_drop {w : World} {b o : Nat} {cs : List Value} (h : CellsAt w b o cs) (n : Nat) : CellsAt w b (o + n) (cs.drop n) := by
  intro j v hv
  rw [List.getElem?_drop] at hv
  have := h (n + j) v hv
  rwa [Nat.add_assoc]
theorem cellsAt_take {w : World} {b o : Nat} {cs : List Value} (h : CellsAt w b o cs) (n : Nat) : CellsAt w b o (cs.take n) := by
  intro j v hv
  rw [List.getElem?_take] at hv
  split at hv
  · exact h j v hv
  · simp at hv
theorem notAgg_size {t : Ty} (h : t.isAgg = false) : t.size = 1 := by
  cases t <;> simp [Ty.isAgg] at h <;> rfl
theorem len1 {α : Type} {l : List α} (h : l.length = 1) : ∃ a, l = [a] := by
  match l, h with
  | [a], _ => exact ⟨a, rfl⟩

section
variable {P : Program} {Γ : Tab} {T : Nat} {ti : TI}

theorem run_load' (hT : TyOk P Γ T ti) {w : World} {b o : Nat} {cs : List Value} (hc : CellsAt w b o cs) (hl : cs.length = ti.ty.size) :
    ∃ z, (Instr.loadAt T (.pointer (some ⟨b, o, none⟩))).run P w = .ok z w ∧ AsVal ti.ty cs z := by
  obtain ⟨d, hd, hrow, _⟩ := hT.under
  obtain ⟨i, z, zs, hi, hs, _⟩ := hT.info
  cases ha : ti.ty.isAgg with
  | true =>
    refine ⟨.agg cs.toArray, run_loadAt_mid w b o T cs d hc hd (by rw [hrow, ha]) (by simp [hi, hs, hl]), by simp [AsVal, ha]⟩
  | false =>
    obtain ⟨v, rfl⟩ := len1 (by rw [hl]; exact notAgg_size ha)
    refine ⟨v, ?_, by simp [AsVal, ha]⟩
    have hcell := hc 0 v rfl
    have hagg : (isAgg T).run P w = .ok false w := by
      unfold isAgg
      rw [Sem.run_bind, run_underlying hd w]
      rw [ha] at hrow
      cases d <;> simp_all [TypeDesc.isRow]
    simp only [Nat.add_zero] at hcell
    simp only [Instr.loadAt, Instr.sureAddr, loadVar, Sem.run_bind, Sem.run_pure, Result.andThen_ok, hagg, Bool.false_eq_true, if_false, run_load, hcell]

theorem run_store' (hT : TyOk P Γ T ti) {w : World} {b o : Nat} {cur : Array Value} {U : Nat} (hh : w.heap[b]? = some (.cells cur U (0, 0))) {v : Value} {vs : List Value} (hv : v.cells = vs.toArray)
    (hl : vs.length = ti.ty.size) (hfit : o + vs.length ≤ cur.size) (h1 : ∀ u ∈ vs, u.oneCell' = true) :
    (Instr.storeAt T (.pointer (some ⟨b, o, none⟩)) v).run P w = .ok () (w.setRow b (cur.toList.take o ++ vs ++ cur.toList.drop (o + vs.length)).toArray) := by
  obtain ⟨i, z, zs, hi, hs, _⟩ := hT.info
  have hst := run_storeCells_at P b o U vs 0 cur w hh (by simpa using hfit) h1
  simp only [Nat.add_zero] at hst
  have e : ¬ vs.length ≠ i.size := by rw [hs, hl]; simp
  simp only [Instr.storeAt, Instr.sureAddr, storeVar, sizeOf, typeInfo, Sem.run_bind, Sem.run_pure, Result.andThen_ok, run_program, hi, hv, List.size_toArray, e, if_false, hst]
end

section
variable {P : Program} {w0 : World} {G0 : Nat → Prop} {N : Nat} {F : List (Nat × Obj)} {m : St} {e : Env} {tm : Array Value} {Γ : Tab} {ρ : Type}

theorem load_sound (hΓ : TabOk P Γ) (hR : Rel w0 G0 N F m e tm) {T : Nat} {x : V} {v : Value} {K : SV → Env → Option ρ} {r : ρ} (h : evLoad Γ T x e K = some r) (hx : Lv m x v) :
    ∃ sv z, (Instr.loadAt T v).run P m.w = .ok z m.w ∧ Sv m sv z ∧ K sv e = some r := by
  unfold evLoad at h
  cases hf : find Γ T with
  | none => simp [hf] at h
  | some ti =>
    simp only [hf] at h
    have hT := hΓ T ti hf
    -- one lemma for all three
    have key : ∀ (b o : Nat) (l : List V) (cs : List Value), CellsAt m.w b o cs → R2 (Lv m) l cs → ∀ s, Nat.ble ti.ty.size (lenN l) = true → asSV ti.ty (takeN ti.ty.size l) = some s →
        ∃ z, (Instr.loadAt T (.pointer (some ⟨b, o, none⟩))).run P m.w = .ok z m.w ∧ Sv m s z := by
      intro b o l cs hc hl s hn hs
      have hn' : ti.ty.size ≤ l.length := by rw [← lenN_eq]; exact Nat.le_of_ble_eq_true hn
      obtain ⟨z, hz, ha⟩ := run_load' hT (cellsAt_take hc ti.ty.size) (by rw [List.length_take, ← hl.length]; omega)
      rw [takeN_eq] at hs
      exact ⟨z, hz, asSV_sv hs (hl.take _) ha⟩
    cases x with
    | loc id off =>
      obtain ⟨hid, rfl⟩ := hx
      simp only at h
      cases ho : e.obj id with
      | none => simp [ho] at h
      | some o =>
        cases o with
        | var vs =>
          simp only [ho] at h
          obtain ⟨cs, U, hh, hr⟩ := (hR.obj id _ ho).2
          cases hb : Nat.ble ti.ty.size (lenN (dropN off vs)) with
          | false => simp [hb] at h
          | true =>
            simp only [hb] at h
            cases hs : asSV ti.ty (takeN ti.ty.size (dropN off vs)) with
            | none => simp [hs] at h
            | some s =>
              simp only [hs] at h
              rw [dropN_eq] at hb hs
              have hc := cellsAt_drop (cells_of_heap hh) off
              rw [Nat.zero_add] at hc
              obtain ⟨z, hz, hv⟩ := key _ _ _ _ hc (hr.drop off) s hb hs
              exact ⟨s, z, hz, hv, h⟩
        | _ => simp [ho] at h
    | el t y off =>
      obtain ⟨b, o, cs, rfl, hH, hc, hv⟩ := hx
      simp only at h
      cases hb : Nat.ble ti.ty.size (lenN (dropN off (enc t y []))) with
      | false => simp [hb] at h
      | true =>
        simp only [hb] at h
        cases hs : asSV ti.ty (takeN ti.ty.size (dropN off (enc t y []))) with
        | none => simp [hs] at h
        | some s =>
          simp only [hs] at h
          rw [dropN_eq] at hb hs
          obtain ⟨z, hz, hv⟩ := key _ _ _ _ (cellsAt_drop hc off) (hv.enc.drop off) s hb hs
          exact ⟨s, z, hz, hv, h⟩
    | rel id sz j off =>
      obtain ⟨hid, b, n, c, hν, hj, rfl⟩ := hx
      simp only at h
      cases ho : e.obj id with
      | none => simp [ho] at h
      | some o =>
        cases o with
        | row U t xs =>
          simp only [ho] at h
          have hob := (hR.obj id _ ho).2
          cases hsz : Nat.beq sz t.size with
          | false => simp [hsz] at h
          | true =>
            have hsz' := Nat.eq_of_beq_eq_true hsz
            subst hsz'
            generalize hy : xs.getD j t.zero = y at h
            cases hb : Nat.ble ti.ty.size (lenN (dropN off (enc t y []))) with
            | false => simp [hsz, hb] at h
            | true =>
              simp only [hsz, hb] at h
              cases hs : asSV ti.ty (takeN ti.ty.size (dropN off (enc t y []))) with
              | none => simp [hs] at h
              | some s =>
                simp only [hs] at h
                rw [dropN_eq] at hb hs
                rcases hob with ⟨e1, _⟩ | ⟨b', c', cs, e1, hh, h1, h2, h3, hx⟩
                · rw [hν] at e1; simp at e1
                · rw [hν] at e1
                  simp only [Value.slice.injEq, Option.some.injEq, Addr.mk.injEq, and_true] at e1
                  obtain ⟨rfl, rfl, rfl⟩ := e1
                  obtain ⟨cs', hc, hv⟩ := hx j hj
                  rw [hy] at hv
                  obtain ⟨z, hz, hv⟩ := key _ _ _ _ (cellsAt_drop hc off) (hv.enc.drop off) s hb hs
                  exact ⟨s, z, hz, hv, h⟩
        | _ => simp [ho] at h
    | _ => simp at h
end
end Go.Ev
