/- A region of operations, one behind the other. -/
import Derived.Test.YticlnmiakaelkaaEvOpA
set_option linter.unusedSimpArgs false
set_option linter.unusedVariables false
namespace Go.Ev
open Go.RowKit (Below)

/-- All names are below the next. -/
def Fresh (m : St) (e : Env) : Prop := ∀ i, m.D i → i < e.next

section
variable {P : Program} {w0 : World} {G0 : Nat → Prop} {N : Nat} {F : List (Nat × Obj)} {m : St} {e : Env} {tm : Array Value} {Γ : Tab} {Δ : List (Nat × Con)} {k : Nat} {ρ : Type}

theorem Fresh.free (h : Fresh m e) : ¬ m.D e.next := fun hd => absurd (h _ hd) (Nat.lt_irrefl _)
theorem Stp.fresh {m' : St} {e' : Env} (h : Stp m e m' e') (hf : Fresh m e) : Fresh m' e' := by
  intro i hi
  rcases h.D i hi with hi | ⟨rfl, h2⟩
  · have := hf i hi
    rcases h.next with h | h <;> omega
  · omega
theorem put_next (e : Env) (d : Option Nat) (v : SV) : (e.put d v).next = e.next := by cases d <;> rfl
theorem put_objs (e : Env) (d : Option Nat) (v : SV) : (e.put d v).objs = e.objs := by cases d <;> rfl

def dstOk (N : Nat) (d : Option Nat) : Bool := match d with
  | some d => Nat.blt d N
  | none => true
theorem Rel.put (hR : Rel w0 G0 N F m e tm) {d : Option Nat} (hd : dstOk N d = true) {sv : SV} {v : Value} (hv : Sv m sv v) : Rel w0 G0 N F m (e.put d sv) ((⟨tm, []⟩ : Act).put d v).tmps := by
  cases d with
  | none => exact hR
  | some d =>
    have hlt : d < N := by
      simp only [dstOk] at hd
      exact Nat.le_of_ble_eq_true hd
    exact hR.set hlt hv
theorem put_act (tm : Array Value) (d : Option Nat) (v : Value) : (⟨tm, []⟩ : Act).put d v = ⟨((⟨tm, []⟩ : Act).put d v).tmps, []⟩ := by cases d <;> rfl

/-- What a guard says. -/
theorem yielded_bool {all : List Oper} {ops : Array Oper} (ha : ops.toList = all) {j s : Nat} {g : Oper} (h1 : nth all j = some g) (h2 : g.dst = some s) {x : Bool} (hs : tm[s]? = some (.bool x)) : yielded ops tm j = some x := by
  rw [nth_eq, ← ha, Array.getElem?_toList] at h1
  simp [yielded, h1, h2, hs]
theorem yielded_none {all : List Oper} {ops : Array Oper} (ha : ops.toList = all) {j s : Nat} {g : Oper} (h1 : nth all j = some g) (h2 : g.dst = some s) (hs : tm[s]? = some (.tuple #[])) : yielded ops tm j = none := by
  rw [nth_eq, ← ha, Array.getElem?_toList] at h1
  simp [yielded, h1, h2, hs]

theorem ops_sound (hΓ : TabOk P Γ) (hΔ : DelOk P w0 Δ) {ops : Array Oper} {all : List Oper} (ha : ops.toList = all) {Q : Exit → Act → World → Prop} {K : Env → Option ρ} {r : ρ}
    (hQ : ∀ m' e' tm', Rel w0 G0 N F m' e' tm' → Fresh m' e' → K e' = some r → Q .normal ⟨tm', []⟩ m'.w) :
    ∀ (l : List Oper) (m : St) (e : Env) (tm : Array Value), (∀ o ∈ l, dstOk N o.dst = true) → Rel w0 G0 N F m e tm → Fresh m e → evOps Γ Δ k all l e K = some r → wpList P ops Q l ⟨tm, []⟩ m.w
  | [], m, e, tm, _, hR, hf, h => hQ m e tm hR hf h
  | o :: rest, m, e, tm, hd, hR, hf, h => by
    have hdo := hd o List.mem_cons_self
    have hdr : ∀ o ∈ rest, dstOk N o.dst = true := fun o ho => hd o (List.mem_cons_of_mem _ ho)
    have ih := ops_sound hΓ hΔ ha hQ rest
    -- the operation is done
    have doit : ∀ e1 : Env, Rel w0 G0 N F m e1 tm → Fresh m e1 → evOp Γ Δ k o.op e1 (fun v e' => evOps Γ Δ k all rest (e'.put o.dst v) K) = some r → o.wp P ⟨tm, []⟩ m.w (wpList P ops Q rest) Q := by
      intro e1 hR1 hf1 h1
      refine op_sound (a := ⟨tm, []⟩) hΓ hΔ hR1 hf1.free o h1 ?_
      intro m' e' s v ⟨g1, _, g2, g3, g4⟩
      rw [put_act]
      exact ih m' _ _ hdr (g2.put hdo g3) (by unfold Fresh; rw [put_next]; exact g1.fresh hf1) g4
    -- it is left out
    have skip : ∀ e1 : Env, Rel w0 G0 N F m e1 tm → Fresh m e1 → evOps Γ Δ k all rest (e1.put o.dst (.tup [])) K = some r → wpList P ops Q rest ((⟨tm, []⟩ : Act).put o.dst undef) m.w := by
      intro e1 hR1 hf1 h1
      rw [put_act]
      exact ih m _ _ hdr (hR1.put hdo undef_sv) (by unfold Fresh; rw [put_next]; exact hf1) h1
    unfold wpList
    unfold evOps at h
    cases hg : o.guard with
    | none =>
      rw [hg] at h
      have hw : Region.wanted o (yielded ops tm) = true := by simp [Region.wanted, hg]
      simp only [hw, if_true]
      exact .inl (doit e hR hf h)
    | some p =>
      obtain ⟨j, want⟩ := p
      rw [hg] at h
      simp only at h
      cases hj : nth all j with
      | none => simp [hj] at h
      | some g =>
        simp only [hj] at h
        cases hds : g.dst with
        | none => simp [hds] at h
        | some s =>
          simp only [hds] at h
          cases hs : e.get s with
          | none => simp [hs] at h
          | some sv =>
            obtain ⟨v, hv, hsv⟩ := hR.slots s sv hs
            have refined : ∀ {sv' : SV}, Sv m sv' v → Rel w0 G0 N F m (e.set s sv') tm := fun hsv' => hR.reset hv hsv'
            have fr : ∀ sv', Fresh m (e.set s sv') := fun _ => hf
            cases sv with
            | agg l => simp [hs] at h
            | tup l =>
              cases l with
              | cons => simp [hs] at h
              | nil =>
                simp only [hs] at h
                obtain ⟨xs, e1, hx⟩ := hsv
                have : xs = [] := by cases xs with
                  | nil => rfl
                  | cons => exact absurd hx (by simp [R2])
                subst this
                subst e1
                have hw : Region.wanted o (yielded ops tm) = false := by
                  simp only [Region.wanted, hg, yielded_none ha hj hds hv]
                  rfl
                simp only [hw, Bool.false_eq_true, if_false]
                exact skip e hR hf h
            | one y =>
              cases y with
              | b x =>
                simp only [hs] at h
                have hvx : v = .bool x := hsv
                subst hvx
                have hw : Region.wanted o (yielded ops tm) = (x == want) := by
                  simp only [Region.wanted, hg, yielded_bool ha hj hds hv]
                  cases x <;> cases want <;> rfl
                rw [hw]
                cases x <;> cases want <;> simp only [br, cond] at h
                · exact .inl (doit _ (refined (sv' := .one (.b false)) rfl) (fr _) h)
                · exact skip _ (refined (sv' := .one (.b false)) rfl) (fr _) h
                · exact skip _ (refined (sv' := .one (.b true)) rfl) (fr _) h
                · exact .inl (doit _ (refined (sv' := .one (.b true)) rfl) (fr _) h)
              | _ => simp [hs] at h
end
end Go.Ev
