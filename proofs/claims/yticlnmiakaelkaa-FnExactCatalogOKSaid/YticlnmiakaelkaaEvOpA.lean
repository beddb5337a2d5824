/- One operation. -/
import Derived.Test.YticlnmiakaelkaaEvCall
set_option linter.unusedSimpArgs false
set_option linter.unusedVariables false
namespace Go.Ev
open Go.RowKit (Below)

section
variable {P : Program} {w0 : World} {G0 : Nat → Prop} {N : Nat} {F : List (Nat × Obj)} {m : St} {e : Env} {a : Act} {Γ : Tab} {Δ : List (Nat × Con)} {k : Nat} {ρ : Type}

theorem undef_sv : Sv m (.tup []) undef := ⟨[], rfl, trivial⟩
theorem run_v {s : Sem Value} {w w' : World} {v : Value} (h : s.run P w = .ok v w') : (do pure (Next.value (← s)) : Sem Next).run P w = .ok (.value v) w' := by
  simp only [Sem.run_bind, h, Result.andThen_ok, Sem.run_pure]
theorem run_u {s : Sem Unit} {w w' : World} (h : s.run P w = .ok () w') : (do s; pure Next.skip : Sem Next).run P w = .ok .skip w' := by
  simp only [Sem.run_bind, h, Result.andThen_ok, Sem.run_pure]

theorem valAll_sv (hR : Rel w0 G0 N F m e a.tmps) : ∀ (l : List Operand) (vs : List SV), valAll e l = some vs → R2 (Sv m) vs (l.map a.eval)
  | [], vs, h => by simp only [valAll, Option.some.injEq] at h; subst h; trivial
  | o :: r, vs, h => by
    simp only [valAll] at h
    cases ho : e.val o with
    | none => simp [ho] at h
    | some v =>
      cases hr : valAll e r with
      | none => simp [ho, hr] at h
      | some l =>
        simp only [ho, hr, Option.some.injEq] at h
        subst h
        exact ⟨val_sv hR ho, valAll_sv hR r l hr⟩
theorem caps_sv : ∀ (cs : List Cap) (l : List Value), R2 (Cp m) cs l → R2 (Sv m) (cs.map capSV) l
  | [], [], _ => trivial
  | c :: cs, v :: l, ⟨h1, h2⟩ => by
    refine ⟨?_, caps_sv cs l h2⟩
    cases c with
    | loc id => exact h1
    | el t x =>
      obtain ⟨b, o, cs', e, h⟩ := h1
      exact ⟨b, o, cs', by simpa using e, h⟩
  | [], _ :: _, h => by simp [R2] at h
  | _ :: _, [], h => by simp [R2] at h

/-- What is known behind a step. -/
def Onw (w0 : World) (G0 : Nat → Prop) (N : Nat) (F : List (Nat × Obj)) (m : St) (e : Env) (tm : Array Value) (rd : Bool) {ρ : Type} (K : SV → Env → Option ρ) (r : ρ) (m' : St) (e' : Env) (s : SV) (v : Value) : Prop :=
  Stp m e m' e' ∧ (rd = true → ∀ i, i ≠ e.next → find e'.objs i = find e.objs i) ∧ Rel w0 G0 N F m' e' tm ∧ Sv m' s v ∧ K s e' = some r

theorem builtin_sound (hΓ : TabOk P Γ) (hR : Rel w0 G0 N F m e a.tmps) (hfr : ¬ m.D e.next) {b : Builtin} {ts : Array TypeId} {type : TypeId} {consts : Array Bool} {vs : List SV} {args : List Value} {K : SV → Env → Option ρ} {r : ρ} (hvs : R2 (Sv m) vs args)
    (h : evBuiltin Γ b ts.toList vs e K = some r) (as : Array Operand) (us : Array TypeId) : ∃ m' e' s v, (builtin b ts type consts args.toArray).run P m.w = .ok (.value v) m'.w ∧ Onw w0 G0 N F m e a.tmps (reads (.call ⟨.builtin b, as, us⟩)) K r m' e' s v := by
  have same : ∀ i, i ≠ e.next → find e.objs i = find e.objs i := fun _ _ => rfl
  unfold evBuiltin at h
  split at h
  · rename_i v
    cases args with
    | nil => exact absurd hvs (by simp [R2])
    | cons u l =>
      cases l with
      | cons => exact absurd hvs.2 (by simp [R2])
      | nil =>
        cases hts : ts.toList with
        | nil => simp [hts] at h
        | cons T tl =>
          simp only [hts] at h
          cases hf : find Γ T with
          | none => simp [hf] at h
          | some ti =>
            simp only [hf] at h
            cases hl : lenOf e ti.ty v with
            | none => simp [hl] at h
            | some n =>
              simp only [hl] at h
              have hT : ts[0]? = some T := by rw [← Array.getElem?_toList, hts]; rfl
              exact ⟨m, e, .one (.i .i64 n), _, run_v (len_sound hΓ hR hf hl hvs.1 ts hT type), .refl m e, fun _ => same, hR, rfl, h⟩
  · rename_i s x
    cases args with
    | nil => exact absurd hvs (by simp [R2])
    | cons u l =>
      cases l with
      | nil => exact absurd hvs.2 (by simp [R2])
      | cons u2 l =>
        cases l with
        | cons => exact absurd hvs.2.2 (by simp [R2])
        | nil =>
          split at h
          · rename_i T U hts
            cases hTU : Nat.beq T U with
            | false => simp [hTU] at h
            | true =>
              simp only [hTU] at h
              have := Nat.eq_of_beq_eq_true hTU
              subst this
              have hts' : ts = #[T, T] := by
                apply Array.ext'
                rw [hts]
              subst hts'
              obtain ⟨m', e', s', v', g1, g2, g3, g4, g5⟩ := evAppend_sound (P := P) (ty := type) hΓ hR h hvs.1 hvs.2.1 hfr
              exact ⟨m', e', s', v', run_v g1, g2, fun hr => by simp [reads] at hr, g3, g4, g5⟩
          · simp at h
  · rename_i kk x j y
    cases args with
    | nil => exact absurd hvs (by simp [R2])
    | cons u l =>
      cases l with
      | nil => exact absurd hvs.2 (by simp [R2])
      | cons u2 l =>
        cases l with
        | cons => exact absurd hvs.2.2 (by simp [R2])
        | nil =>
          have h1 : u = .int kk x := hvs.1
          have h2 : u2 = .int j y := hvs.2.1
          subst h1; subst h2
          cases hk : kEq kk j with
          | false => simp [hk] at h
          | true =>
            simp only [hk] at h
            exact ⟨m, e, .one (.i kk (min x y)), _, run_v (Lib.run_min_ints m.w ts type kk j x y), .refl m e, fun _ => same, hR, rfl, h⟩
  · rename_i kk x j y
    cases args with
    | nil => exact absurd hvs (by simp [R2])
    | cons u l =>
      cases l with
      | nil => exact absurd hvs.2 (by simp [R2])
      | cons u2 l =>
        cases l with
        | cons => exact absurd hvs.2.2 (by simp [R2])
        | nil =>
          have h1 : u = .int kk x := hvs.1
          have h2 : u2 = .int j y := hvs.2.1
          subst h1; subst h2
          cases hk : kEq kk j with
          | false => simp [hk] at h
          | true =>
            simp only [hk] at h
            exact ⟨m, e, .one (.i kk (max x y)), _, run_v (Lib.run_max_ints m.w ts type kk j x y), .refl m e, fun _ => same, hR, rfl, h⟩
  · simp at h

theorem bnd1 {o : Operand} {x : V} (hR : Rel w0 G0 N F m e a.tmps) (h : e.one o = some x) : Lv m x (a.eval o) := one_lv hR h

theorem op_sound (hΓ : TabOk P Γ) (hΔ : DelOk P w0 Δ) (hR : Rel w0 G0 N F m e a.tmps) (hfr : ¬ m.D e.next) (o : Oper) {K : SV → Env → Option ρ} {r : ρ} (h : evOp Γ Δ k o.op e K = some r)
    {next : Act → World → Prop} {Q : Exit → Act → World → Prop} (hn : ∀ m' e' s v, Onw w0 G0 N F m e a.tmps (reads o.op) K r m' e' s v → next (a.put o.dst v) m'.w) : o.wp P a m.w next Q := by
  obtain ⟨dst, op, type, pos, after, guard⟩ := o
  simp only at h hn
  have same : ∀ i, i ≠ e.next → find e.objs i = find e.objs i := fun _ _ => rfl
  have fresh : ∀ (ob : Obj) i, i ≠ e.next → find (e.new ob).objs i = find e.objs i := fun ob i hi => by
    simp only [Env.new, find_cons]
    rw [if_neg fun e => hi e.symm]
  cases op with
  | move x =>
    simp only [evOp] at h
    cases hx : e.val x with
    | none => simp [hx] at h
    | some v =>
      simp only [hx] at h
      exact wp_value (by simp only [execOp]; rfl) (hn m e v _ ⟨.refl m e, fun _ => same, hR, val_sv hR hx, h⟩)
  | assign x =>
    simp only [evOp] at h
    cases hx : e.val x with
    | none => simp [hx] at h
    | some v =>
      simp only [hx] at h
      exact wp_value (by simp only [execOp]; rfl) (hn m e v _ ⟨.refl m e, fun _ => same, hR, val_sv hR hx, h⟩)
  | pick c x y =>
    simp only [evOp] at h
    cases hc : e.one c with
    | none => simp [hc] at h
    | some v =>
      have hl := one_lv hR hc
      cases v with
      | b z =>
        simp only [Lv] at hl
        simp only [hc] at h
        cases z with
        | true =>
          simp only [br, cond] at h
          cases hx : e.val x with
          | none => simp [hx] at h
          | some v =>
            simp only [hx] at h
            exact wp_value (w' := m.w) (v := a.eval x) (by simp [execOp, hl, asBool]) (hn m e v _ ⟨.refl m e, fun _ => same, hR, val_sv hR hx, h⟩)
        | false =>
          simp only [br, cond] at h
          cases hx : e.val y with
          | none => simp [hx] at h
          | some v =>
            simp only [hx] at h
            exact wp_value (w' := m.w) (v := a.eval y) (by simp [execOp, hl, asBool]) (hn m e v _ ⟨.refl m e, fun _ => same, hR, val_sv hR hx, h⟩)
      | _ => simp [hc] at h
  | alloc T =>
    simp only [evOp] at h
    cases hf : find Γ T with
    | none => simp [hf] at h
    | some ti =>
      simp only [hf] at h
      obtain ⟨m', v, g1, g2, g3, g4⟩ := alloc_sound hΓ hR hf hfr
      exact wp_value (run_v g1) (hn m' _ (.one (.loc e.next 0)) v ⟨g2, fun _ => fresh _, g3, g4, h⟩)
  | box T x =>
    simp only [evOp] at h
    cases hx : e.val x with
    | none => simp [hx] at h
    | some s =>
      simp only [hx] at h
      cases ht : s.isTup with
      | true => simp [ht] at h
      | false =>
        simp only [ht] at h
        obtain ⟨m', v, g1, g2, g3, g4⟩ := box_sound (P := P) (T := T) hR (val_sv hR hx) ht hfr
        exact wp_value (run_v g1) (hn m' _ (.one (.loc e.next 0)) v ⟨g2, fun _ => fresh _, g3, g4, h⟩)
  | build T parts =>
    simp only [evOp] at h
    cases hf : find Γ T with
    | none => simp [hf] at h
    | some ti =>
      simp only [hf] at h
      cases hb : evBuild ti e parts.toList (zeros ti.ty []) with
      | none => simp [hb] at h
      | some l =>
        simp only [hb] at h
        cases ha : ti.ty.isAgg with
        | false => simp [ha] at h
        | true =>
          simp only [ha] at h
          obtain ⟨v, g1, g2⟩ := build_sound hΓ hR hf ha parts hb
          exact wp_value (run_v g1) (hn m e _ v ⟨.refl m e, fun _ => same, hR, g2, h⟩)
  | buildSlice T n parts =>
    simp only [evOp] at h
    cases hf : find Γ T with
    | none => simp [hf] at h
    | some ti =>
      simp only [hf] at h
      cases hj : find Γ ti.elem with
      | none => simp [hj] at h
      | some tj =>
        simp only [hj] at h
        cases hb : evElems tj.ty (e.freeze (partIds e parts.toList)) 0 parts.toList with
        | none => simp [hb] at h
        | some xs =>
          simp only [hb] at h
          cases h1 : Nat.beq (lenN parts.toList) n with
          | false => simp [h1] at h
          | true =>
            cases h2 : Nat.ble (n * tj.ty.size) 16777216 with
            | false => simp [h1, h2] at h
            | true =>
              simp only [h1, h2] at h
              cases h3 : tyEq ti.ty (.sl tj.ty) with
              | false => simp [h3] at h
              | true =>
                simp only [h3] at h
                obtain ⟨hu, hpos, _⟩ := elem_info hΓ hf (tyEq_eq h3)
                obtain ⟨m', v, g1, g2, g3, g4⟩ := buildSlice_sound hΓ hR hf hu hj hpos n parts hb h1 h2 hfr
                exact wp_value (run_v g1) (hn m' _ (.one (.row (e.freeze (partIds e parts.toList)).next)) v ⟨g2, fun hr => by simp [reads] at hr, g3, g4, h⟩)
  | load T x =>
    simp only [evOp] at h
    cases hx : e.one x with
    | none => simp [hx] at h
    | some v =>
      simp only [hx] at h
      obtain ⟨sv, z, g1, g2, g3⟩ := load_sound hΓ hR h (one_lv hR hx)
      exact wp_value (run_v g1) (hn m e sv z ⟨.refl m e, fun _ => same, hR, g2, g3⟩)
  | store T x y =>
    simp only [evOp] at h
    cases hx : e.one x with
    | none => simp [hx] at h
    | some p =>
      cases hy : e.val y with
      | none => simp [hx, hy] at h
      | some v =>
        simp only [hx, hy] at h
        obtain ⟨m', e', g1, g2, _, g3, g4⟩ := store_sound hΓ hR h (one_lv hR hx) (val_sv hR hy)
        exact wp_skip' (run_u g1) (hn m' e' _ _ ⟨g2, fun hr => by simp [reads] at hr, g3, undef_sv, g4⟩)
  | nilCheck x =>
    simp only [evOp] at h
    cases hx : e.one x with
    | none => simp [hx] at h
    | some v =>
      have hl := one_lv hR hx
      cases v with
      | loc id off =>
        simp only [hx] at h
        refine wp_value (w' := m.w) (v := a.eval x) ?_ (hn m e (.one (.loc id off)) _ ⟨.refl m e, fun _ => same, hR, hl, h⟩)
        simp only [execOp, hl.2]; rfl
      | el t y off =>
        simp only [hx] at h
        refine wp_value (w' := m.w) (v := a.eval x) ?_ (hn m e (.one (.el t y off)) _ ⟨.refl m e, fun _ => same, hR, hl, h⟩)
        obtain ⟨b, o, cs, e1, _⟩ := hl
        simp only [execOp, e1]; rfl
      | rel id sz j off =>
        simp only [hx] at h
        refine wp_value (w' := m.w) (v := a.eval x) ?_ (hn m e (.one (.rel id sz j off)) _ ⟨.refl m e, fun _ => same, hR, hl, h⟩)
        obtain ⟨_, b, n, c, _, _, e1⟩ := hl
        simp only [execOp, e1]; rfl
      | _ => simp [hx] at h
  | binOp op T x y yT =>
    simp only [evOp] at h
    cases hf : find Γ T with
    | none => simp [hf] at h
    | some ti =>
      cases hx : e.val x with
      | none => simp [hf, hx] at h
      | some u =>
        cases hy : e.val y with
        | none => simp [hf, hx, hy] at h
        | some v =>
          simp only [hf, hx, hy] at h
          obtain ⟨sv, z, g1, g2, g3⟩ := evBin_sound (P := P) (m := m) h (val_sv hR hx) (val_sv hR hy) T (fun ht => (hΓ T ti hf).bool ht) x y m.w
          exact wp_value (run_v g1) (hn m e sv z ⟨.refl m e, fun _ => same, hR, g2, g3⟩)
  | unOp op T x =>
    simp only [evOp] at h
    cases hx : e.one x with
    | none => simp [hx] at h
    | some v =>
      simp only [hx] at h
      obtain ⟨sv, z, g1, g2, g3⟩ := evUn_sound (P := P) (m := m) h (one_lv hR hx) m.w
      exact wp_value (run_v g1) (hn m e sv z ⟨.refl m e, fun _ => same, hR, g2, g3⟩)
  | convert src dst' x =>
    simp only [evOp] at h
    cases hs : find Γ src with
    | none => simp [hs] at h
    | some tj =>
      cases hd : find Γ dst' with
      | none => simp [hs, hd] at h
      | some ti =>
        cases hx : e.one x with
        | none => simp [hs, hd, hx] at h
        | some v =>
          simp only [hs, hd, hx] at h
          obtain ⟨m', sv, z, g1, g2, _, g3, g4, g5⟩ := conv_sound hΓ hR hs hd h (one_lv hR hx)
          exact wp_value (run_v g1) (hn m' e sv z ⟨g2, fun _ => same, g3, g4, g5⟩)
  | makeFunc fn first caps =>
    cases fn with
    | func f =>
      simp only [evOp] at h
      cases hfi : first.toList with
      | cons => simp [hfi] at h
      | nil =>
        cases hc : evCaps e caps.toList with
        | none => simp [hfi, hc] at h
        | some l =>
          simp only [hfi, hc] at h
          have hcs := caps_sound hR _ _ hc
          have hf0 : first = #[] := by apply Array.ext'; rw [hfi]
          subst hf0
          refine wp_value (w' := m.w) (v := .func (.func f) #[] (caps.map a.eval)) (run_v (by simp [Instr.makeFunc])) (hn m e (.one (.clo f l)) _ ⟨.refl m e, fun _ => same, hR, ⟨caps.toList.map a.eval, ?_, hcs⟩, h⟩)
          congr 1
          apply Array.ext'
          simp
    | _ => simp [evOp] at h
  | makeSlice T l c =>
    simp only [evOp] at h
    cases hf : find Γ T with
    | none => simp [hf] at h
    | some ti =>
      simp only [hf] at h
      cases hj : find Γ ti.elem with
      | none => simp [hj] at h
      | some tj =>
        simp only [hj] at h
        cases h3 : tyEq ti.ty (.sl tj.ty) with
        | false => simp [h3] at h
        | true =>
          simp only [h3] at h
          cases hl : e.one l with
          | none => simp [hl] at h
          | some vl =>
            cases hc : e.one c with
            | none => cases vl <;> simp [hl, hc] at h
            | some vc =>
              have l1 := one_lv hR hl
              have l2 := one_lv hR hc
              cases vl with
              | i kl n =>
                cases vc with
                | i kc n' =>
                  simp only [hl, hc] at h
                  obtain ⟨e1, k1⟩ := chk_some h
                  obtain ⟨h0, k2⟩ := chk_dec k1
                  obtain ⟨hcap, k3⟩ := chk_dec k2
                  have e1' : n = n' := by simpa using e1
                  clear h k1 k2
                  subst e1'
                  simp only [Lv] at l1 l2
                  obtain ⟨hu, hpos, _⟩ := elem_info hΓ hf (tyEq_eq h3)
                  obtain ⟨m', v, g1, g2, g3, g4⟩ := makeSlice_sound hΓ hR hf hu hj hpos kl kc h0 hcap hfr
                  refine wp_value (w' := m'.w) (v := v) ?_ (hn m' _ (.one (.row e.next)) v ⟨g2, fun _ => fresh _, g3, g4, k3⟩)
                  simp only [execOp, l1, l2]
                  exact run_v g1
                | _ => simp [hl, hc] at h
              | _ => simp [hl] at h
  | slice T x lo hi mx =>
    cases mx with
    | some => simp [evOp] at h
    | none =>
      simp only [evOp] at h
      cases hf : find Γ T with
      | none => simp [hf] at h
      | some ti =>
        cases hx : e.one x with
        | none => simp [hf, hx] at h
        | some v =>
          simp only [hf, hx] at h
          have hl := one_lv hR hx
          unfold evSlice at h
          cases hlo : bound e lo with
          | none => simp [hlo] at h
          | some l =>
            cases hhi : bound e hi with
            | none => simp [hlo, hhi] at h
            | some hh =>
              simp only [hlo, hhi] at h
              cases v with
              | s y =>
                simp only at h
                cases ht : tyEq ti.ty .str with
                | false => simp [ht] at h
                | true =>
                  simp only [ht] at h
                  obtain ⟨s, e1, rfl⟩ := hl
                  obtain ⟨sv, z, g1, g2, g3⟩ := sliceS_sound hΓ hf (tyEq_eq ht) hR hlo hhi h
                  refine wp_value (w' := m.w) (v := z) ?_ (hn m e sv z ⟨.refl m e, fun _ => same, hR, g2, g3⟩)
                  simp only [execOp, e1]
                  exact run_v g1
              | sl t xs =>
                simp only at h
                cases ht : tyEq ti.ty (.sl t) with
                | false => simp [ht] at h
                | true =>
                  simp only [ht] at h
                  obtain ⟨sv, z, g1, g2, g3⟩ := sliceN_sound hΓ hf (tyEq_eq ht) hl hR hlo hhi h
                  exact wp_value (run_v g1) (hn m e sv z ⟨.refl m e, fun _ => same, hR, g2, g3⟩)
              | row id =>
                simp only at h
                obtain ⟨m1, l1, w1, hD1, hR1⟩ := hR.freeze [id]
                have hl1 := Lv.le l1 hl
                cases ho : (e.freeze [id]).obj id with
                | none => simp [ho] at h
                | some o =>
                  cases o with
                  | frow t xs =>
                    simp only [ho] at h
                    cases ht : tyEq ti.ty (.sl t) with
                    | false => simp [ht] at h
                    | true =>
                      simp only [ht] at h
                      have hob := (hR1.obj id _ ho).2
                      have hv : Val m1.w m1.G (.sl t) xs [a.eval x] := by rw [hl1.2.1]; exact hob
                      obtain ⟨sv, z, g1, g2, g3⟩ := sliceN_sound hΓ hf (tyEq_eq ht) hv hR1 (lo := lo) (hi := hi) hlo hhi h
                      rw [← w1]
                      exact wp_value (run_v g1) (hn m1 (e.freeze [id]) sv z ⟨.same l1 hD1 rfl, fun hr => by simp [reads] at hr, hR1, g2, g3⟩)
                  | _ => simp [ho] at h
              | _ => simp at h
  | fieldAddr T x i =>
    simp only [evOp] at h
    cases hf : find Γ T with
    | none => simp [hf] at h
    | some ti =>
      simp only [hf] at h
      cases hd : nth ti.offs i with
      | none => simp [hd] at h
      | some d =>
        cases ha : ti.ty.isAgg with
        | false => simp [hd, ha] at h
        | true =>
          simp only [hd, ha] at h
          cases hx : e.one x with
          | none => simp [hx] at h
          | some v =>
            have hl := one_lv hR hx
            cases v with
            | loc id off =>
              simp only [hx] at h
              obtain ⟨hid, e1⟩ := hl
              refine wp_value (w' := m.w) (v := .pointer (some ⟨m.β id, off + d, none⟩)) ?_ (hn m e (.one (.loc id (off + d))) _ ⟨.refl m e, fun _ => same, hR, ⟨hid, rfl⟩, h⟩)
              simp only [execOp, e1]
              exact run_v (fieldAt_run hΓ hf hd ha m.w _ _)
            | el t y off =>
              simp only [hx] at h
              obtain ⟨b, o, cs, e1, hH, hc, hv⟩ := hl
              refine wp_value (w' := m.w) (v := .pointer (some ⟨b, o + off + d, none⟩)) ?_ (hn m e (.one (.el t y (off + d))) _ ⟨.refl m e, fun _ => same, hR, ⟨b, o, cs, by rw [Nat.add_assoc], hH, hc, hv⟩, h⟩)
              simp only [execOp, e1]
              exact run_v (fieldAt_run hΓ hf hd ha m.w _ _)
            | rel id sz j off =>
              simp only [hx] at h
              obtain ⟨hid, b, n, c, hν, hj, e1⟩ := hl
              refine wp_value (w' := m.w) (v := .pointer (some ⟨b, j * sz + off + d, none⟩)) ?_ (hn m e (.one (.rel id sz j (off + d))) _ ⟨.refl m e, fun _ => same, hR, ⟨hid, b, n, c, hν, hj, by rw [Nat.add_assoc]⟩, h⟩)
              simp only [execOp, e1]
              exact run_v (fieldAt_run hΓ hf hd ha m.w _ _)
            | _ => simp [hx] at h
  | indexAddr T x i =>
    simp only [evOp] at h
    cases hf : find Γ T with
    | none => simp [hf] at h
    | some ti =>
      cases hx : e.one x with
      | none => simp [hf, hx] at h
      | some v =>
        cases hi : e.one i with
        | none => simp [hf, hx, hi] at h
        | some j =>
          have hl := one_lv hR hi
          cases j with
          | i kj n =>
            simp only [hf, hx, hi] at h
            simp only [Lv] at hl
            obtain ⟨sv, z, g1, g2, g3⟩ := indexAddr_sound (k := kj) hΓ hR hf h (one_lv hR hx)
            refine wp_value (w' := m.w) (v := z) ?_ (hn m e sv z ⟨.refl m e, fun _ => same, hR, g2, g3⟩)
            simp only [execOp, hl]
            exact run_v g1
          | _ => simp [hf, hx, hi] at h
  | index T x i =>
    simp only [evOp] at h
    cases hf : find Γ T with
    | none => simp [hf] at h
    | some ti =>
      cases hx : e.one x with
      | none => simp [hf, hx] at h
      | some v =>
        cases hi : e.one i with
        | none => cases v <;> simp [hf, hx, hi] at h
        | some j =>
          have h1 := one_lv hR hx
          have hl := one_lv hR hi
          cases v with
          | s y =>
            cases j with
            | i kj n =>
              simp only [hf, hx, hi] at h
              cases ht : tyEq ti.ty .str with
              | false => simp [ht] at h
              | true =>
                simp only [ht] at h
                obtain ⟨h0, h⟩ := chk_dec h
                obtain ⟨hlt, h⟩ := chk_dec h
                simp only [Lv] at hl
                obtain ⟨s, e1, rfl⟩ := h1
                refine wp_value (w' := m.w) (v := _) ?_ (hn m e (.one (.i .u8 ((s.data.toList.getD n.toNat 0).toNat : Nat))) _ ⟨.refl m e, fun _ => same, hR, rfl, h⟩)
                simp only [execOp, hl, e1]
                exact run_v (index_sound (P := P) hΓ hf (tyEq_eq ht) h0 hlt m.w)
            | _ => simp [hf, hx, hi] at h
          | _ => simp [hf, hx] at h
  | extract x i =>
    simp only [evOp] at h
    cases hx : e.val x with
    | none => simp [hx] at h
    | some v =>
      have hs := val_sv hR hx
      cases v with
      | tup l =>
        simp only [hx] at h
        cases hi : nth l i with
        | none => simp [hi] at h
        | some p =>
          obtain ⟨z, g1, g2⟩ := extract_sound (P := P) hs hi m.w
          obtain ⟨bb, vs⟩ := p
          rcases g2 with ⟨hb, cs, e1, hr⟩ | ⟨hb, v', ev, hr⟩
          · simp only at hb
            subst hb
            simp only [hi] at h
            exact wp_value (run_v g1) (hn m e (.agg vs) z ⟨.refl m e, fun _ => same, hR, ⟨cs, e1, hr⟩, h⟩)
          · simp only at hb ev
            subst hb; subst ev
            simp only [hi] at h
            exact wp_value (run_v g1) (hn m e (.one v') z ⟨.refl m e, fun _ => same, hR, hr, h⟩)
      | _ => simp [hx] at h
  | call c =>
    obtain ⟨callee, args, ts⟩ := c
    cases callee with
    | builtin b =>
      simp only [evOp] at h
      cases hv : valAll e args.toList with
      | none => simp [hv] at h
      | some vs =>
        simp only [hv] at h
        obtain ⟨m', e', s, v, g1, g2⟩ := builtin_sound (P := P) (type := type) (consts := args.map fun | .const _ => true | _ => false) hΓ hR hfr (valAll_sv hR _ _ hv) h args ts
        refine wp_value (w' := m'.w) (v := v) ?_ (hn m' e' s v g2)
        have e1 : (args.toList.map a.eval).toArray = args.map a.eval := by apply Array.ext'; simp
        rw [e1] at g1
        simp only [execOp, resolve, Sem.run_bind, Sem.run_pure, Result.andThen_ok, invoke]
        exact g1
    | value f =>
      simp only [evOp] at h
      cases hx : e.one f with
      | none => simp [hx] at h
      | some v =>
        have hl := one_lv hR hx
        cases v with
        | clo g caps =>
          cases hv : valAll e args.toList with
          | none => simp [hx, hv] at h
          | some vs =>
            simp only [hx, hv] at h
            obtain ⟨cv, e1, hc⟩ := hl
            have hvs := (valAll_sv hR _ _ hv).append (caps_sv _ _ hc)
            obtain ⟨hent, hcall⟩ := call_sound hΔ hR hvs h
            have hrun : (execOp a.eval ⟨dst, .call ⟨.value f, args, ts⟩, type, pos, after, guard⟩).run P m.w = .ok (.enter g (args.toList.map a.eval ++ cv).toArray) m.w := by
              simp only [execOp, resolve, e1, Deferred.ofValue, Sem.run_bind, Sem.run_pure, Result.andThen_ok, invoke]
              have e2 : (#[] ++ args.map a.eval ++ cv.toArray) = (args.toList.map a.eval ++ cv).toArray := by apply Array.ext'; simp
              rw [e2]
              exact hent _ _
            unfold Oper.wp
            rw [hrun, Oper.upon_enter]
            refine Calls.mono hcall ?_
            intro en w' ⟨v, m', e', s, e3, hw, g1, _, g2, g3, g4⟩
            subst e3; subst hw
            exact hn m' e' s v ⟨g1, fun hr => by simp [reads] at hr, g2, g3, g4⟩
        | _ => simp [hx] at h
    | invoke r n => simp [evOp] at h
  | _ => simp [evOp] at h
end
end Go.Ev
