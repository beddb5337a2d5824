/- A function. -/
import Derived.Test.YticlnmiakaelkaaEvCode
set_option linter.unusedSimpArgs false
set_option linter.unusedVariables false
namespace Go.Ev
open Go.RowKit (Below)

section
variable {P : Program} {w0 : World} {G0 : Nat → Prop} {N : Nat} {Γ : Tab} {Δ : List (Nat × Con)} {A : Ann} {m : St} {e : Env} {tm : Array Value}

theorem capsTo_cp : ∀ (ts : List Ty) (x : dens ts) (l : List Value), CapsTo m.w m.G ts x l → (∀ b, b < m.w.heap.size → m.H b) → R2 (Cp m) (startCaps ts x) l
  | [], _, l, h, _ => by simp only [CapsTo] at h; subst h; trivial
  | t :: r, x, [], h, _ => by simp [CapsTo] at h
  | t :: r, x, v :: l, ⟨⟨b, o, cs, e1, hb, hc, hv⟩, h2⟩, hH => ⟨⟨b, o, cs, e1, hH b hb, hc, hv⟩, capsTo_cp r x.2 l h2 hH⟩
theorem startArgs_sound (hH : ∀ b, b < m.w.heap.size → m.H b) : ∀ (as : List AT) (x : ATs.den as) (l : List Value) (s : Nat) (e : Env), Args m.w m.G as x l → (∀ i v, l[i]? = some v → tm[s + i]? = some v) → Rel w0 G0 N [] m e tm → Fresh m e →
    Rel w0 G0 N [] m (startArgs e s as x) tm ∧ Fresh m (startArgs e s as x)
  | [], x, l, s, e, h, ht, hR, hf => ⟨hR, hf⟩
  | a :: r, x, [], s, e, h, ht, hR, hf => by simp [Args] at h
  | a :: r, x, v :: l, s, e, ⟨h1, h2⟩, ht, hR, hf => by
    have hs : tm[s]? = some v := ht 0 v rfl
    have key : ∃ sv, startArg e s a x.1 = e.set s sv ∧ Sv m sv v := by
      cases a with
      | val t =>
        obtain ⟨cs, hv, ha⟩ := h1
        exact ⟨_, rfl, sv_ofTy hv ha⟩
      | ptr t =>
        obtain ⟨b, o, cs, e1, hb, hc, hv⟩ := h1
        exact ⟨.one (.el t x.1 0), rfl, b, o, cs, by simpa using e1, hH b hb, hc, hv⟩
      | clo f ts =>
        obtain ⟨cv, e1, hc⟩ := h1
        exact ⟨.one (.clo f (startCaps ts x.1)), rfl, cv, e1, capsTo_cp ts x.1 cv hc hH⟩
    obtain ⟨sv, e1, hsv⟩ := key
    simp only [startArgs, e1]
    refine startArgs_sound hH r x.2 l (s + 1) _ h2 (fun i u hu => ?_) (hR.reset hs hsv) hf
    have := ht (i + 1) u (by simpa using hu)
    rwa [show s + 1 + i = s + (i + 1) from by omega]

/-- A result variable, read. -/
def resRun (tm : Array Value) : ResultVar → Sem Value
  | .tmp t => pure (tm.getD t undef)
  | .cell a t => do loadVar t (← asAddr (tm.getD a undef))
theorem results_eq (fn : Func) (tm : Array Value) : results fn tm = (do
    let vs ← fn.results.mapM (resRun tm)
    pure (if h : vs.size = 1 then vs[0] else .tuple vs)) := by
  unfold results
  congr 1
theorem run_mapM : ∀ (rs : List ResultVar) (l : List Value) (w : World), R2 (fun r v => (resRun tm r).run P w = .ok v w) rs l → (rs.mapM (resRun tm)).run P w = .ok l w
  | [], [], w, _ => by simp
  | r :: rs, v :: l, w, ⟨h1, h2⟩ => by
    have ih := run_mapM rs l w h2
    simp only [List.mapM_cons, Sem.run_bind, h1, Result.andThen_ok, ih, Sem.run_pure]
  | [], _ :: _, w, h => by simp [R2] at h
  | _ :: _, [], w, h => by simp [R2] at h
theorem results_run (fn : Func) {l : List Value} {w : World} (h : R2 (fun r v => (resRun tm r).run P w = .ok v w) fn.results.toList l) : (results fn tm).run P w = .ok (asRes l) w := by
  have h1 := run_mapM _ _ w h
  rw [results_eq, Array.mapM_eq_mapM_toList]
  simp only [Sem.run_bind, Sem.run_map, h1, Sem.run_pure, Result.andThen_ok]
  match l with
  | [] => simp [asRes]
  | [v] => simp [asRes]
  | a :: b :: r => simp [asRes]

theorem resOf1_sound (hΓ : TabOk P Γ) (hR : Rel w0 G0 N [] m e tm) {t : Ty} {r : ResultVar} {x : t.den} (h : resOf1 Γ e t r = some x) : ∃ v, (resRun tm r).run P m.w = .ok v m.w ∧ Res1 m.w (grown G0 w0 m.w) t x v := by
  have hok : ObjsOk w0 G0 m e.objs := by have := hR.ok; rwa [List.append_nil] at this
  have hob : ∀ i o, find e.objs i = some o → Ob m i o := fun i o hf => (hok.objs i o hf).2
  have hG : ∀ b, m.G b → grown G0 w0 m.w b := fun b hb => (hok.subG b hb).imp id fun h => ⟨h, hok.liveG b hb⟩
  have hRow : ∀ i T u xs a n c, find e.objs i = some (.row T u xs) → m.ν i = .slice (some a) n c → grown G0 w0 m.w a.block := by
    intro i T u xs a n c hf hν
    obtain ⟨_, _, h3, h4⟩ := hok.out i a.block (by simp [blk, hf, hν, Value.ownBlock])
    exact .inr ⟨h4, h3⟩
  cases r with
  | tmp s =>
    simp only [resOf1] at h
    cases hs : e.get s with
    | none => simp [hs] at h
    | some sv =>
      simp only [hs] at h
      obtain ⟨v, hv, hsv⟩ := hR.slots s sv hs
      obtain ⟨cs, h1, h2⟩ := decAll_val (st := false) hob hG (fun _ => hRow) h hsv
      exact ⟨v, by simp [resRun, Array.getD_eq_getD_getElem?, hv], cs, h1, h2⟩
  | cell s T =>
    simp only [resOf1] at h
    cases hf : find Γ T with
    | none => simp [hf] at h
    | some ti =>
      cases hs : e.get s with
      | none => simp [hf, hs] at h
      | some sv =>
        obtain ⟨v, hv, hsv⟩ := hR.slots s sv hs
        cases sv with
        | one y =>
          cases y with
          | loc id off =>
            cases off with
            | succ => simp [hf, hs] at h
            | zero =>
              simp only [hf, hs] at h
              cases ht : tyEq ti.ty t with
              | false => simp [ht] at h
              | true =>
                simp only [ht] at h
                have hty := tyEq_eq ht
                unfold varTy at h
                cases ho : find e.objs id with
                | none => simp [ho] at h
                | some o =>
                  cases o with
                  | var vs =>
                    simp only [ho] at h
                    obtain ⟨cs, U, hh, hr⟩ := hob id _ ho
                    have hval := decCells_val (st := false) hob hG (fun _ => hRow) h hr
                    obtain ⟨_, e1⟩ := hsv
                    obtain ⟨z, g1, g2⟩ := run_load' (hΓ T ti hf) (cells_of_heap hh) (by rw [hty]; exact hval.length)
                    rw [hty] at g2
                    refine ⟨z, ?_, cs, hval, g2⟩
                    rw [← g1]
                    simp [resRun, Array.getD_eq_getD_getElem?, hv, e1, asAddr, Instr.loadAt, Instr.sureAddr]
                  | _ => simp [ho] at h
          | _ => simp [hf, hs] at h
        | _ => simp [hf, hs] at h
theorem finish_sound (hΓ : TabOk P Γ) (hR : Rel w0 G0 N [] m e tm) : ∀ (res : List Ty) (rs : List ResultVar) (x : den1 res), finish Γ e res rs = some x →
    ∃ l, R2 (fun r v => (resRun tm r).run P m.w = .ok v m.w) rs l ∧ Ress m.w (grown G0 w0 m.w) res x l
  | [], [], x, h => ⟨[], trivial, rfl⟩
  | [t], [r], x, h => by
    simp only [finish] at h
    obtain ⟨v, h1, h2⟩ := resOf1_sound hΓ hR h
    exact ⟨[v], ⟨h1, trivial⟩, v, rfl, h2⟩
  | t :: u :: l, r :: rs, x, h => by
    simp only [finish] at h
    cases h1 : resOf1 Γ e t r with
    | none => simp [h1] at h
    | some y =>
      cases h2 : finish Γ e (u :: l) rs with
      | none => simp [h1, h2] at h
      | some z =>
        simp only [h1, h2, Option.some.injEq] at h
        subst h
        obtain ⟨v, g1, g2⟩ := resOf1_sound hΓ hR h1
        obtain ⟨vs, g3, g4⟩ := finish_sound hΓ hR (u :: l) rs z h2
        exact ⟨v :: vs, ⟨g1, g3⟩, v, vs, rfl, g2, g4⟩
  | [], _ :: _, x, h => by simp [finish] at h
  | [_], [], x, h => by simp [finish] at h
  | [_], _ :: _ :: _, x, h => by simp [finish] at h
  | _ :: _ :: _, [], x, h => by simp [finish] at h

theorem args_length : ∀ {as : List AT} {x : ATs.den as} {l : List Value} {w : World} {G : Nat → Prop}, Args w G as x l → l.length = as.length
  | [], x, l, w, G, h => by simp only [Args] at h; subst h; rfl
  | a :: r, x, [], w, G, h => by simp [Args] at h
  | a :: r, x, v :: l, w, G, ⟨_, h⟩ => by simp [args_length h]

/-- THE FUNCTION KEEPS ITS CONTRACT. -/
theorem fn_sound (hΓ : TabOk P Γ) (hΔ : DelOk P w0 Δ) (hD : ∀ {w : World}, Below w0.heap.size w0 w → DrawSound P w Γ Δ) {f : Nat} {fn : Func} (hf : P.funcs[f]? = some fn) {c : Con} (hok : (match fn.body with
      | some b => codeDst fn.ntmps b && Nat.ble c.args.length fn.ntmps
      | none => false) = true) (heq : ∀ k x, c.fn k x = evFn Γ Δ A fn c.args c.res k x) : ConOk P w0 f c := by
  intro k x r w G args hbw hG hr hargs
  rw [heq] at hr
  unfold evFn at hr
  cases hb : fn.body with
  | none => simp [hb] at hr
  | some b =>
    rw [hb] at hr hok
    simp only [Bool.and_eq_true] at hr hok
    obtain ⟨hdst, hn⟩ := hok
    have hn := Nat.le_of_ble_eq_true hn
    have hlen := args_length hargs
    refine calls_of_wp hf hb ?_
    generalize htm : args.toArray ++ Array.replicate (fn.ntmps - args.toArray.size) undef = tm
    have hsize : tm.size = fn.ntmps := by rw [← htm]; simp; omega
    let m : St := ⟨w, G, fun b => b < w.heap.size, fun _ => 0, fun _ => .bool true, fun _ => False⟩
    have hok0 : ObjsOk w G m [] := ⟨.refl _ _, fun i o hf => by simp [find] at hf, fun i j b hb => by simp [blk, find] at hb, fun i b hb => by simp [blk, find] at hb, hG, fun b hb => hb, fun b hb => .inl hb, hG⟩
    have hR0 : Rel w G fn.ntmps [] m ⟨[], [], 0⟩ tm := ⟨hok0, fun i o hf => by simp [find] at hf, hsize, fun t sv hf => by simp [find] at hf⟩
    obtain ⟨hR, hfr⟩ := startArgs_sound (m := m) (tm := tm) (fun b hb => hb) c.args x args 0 ⟨[], [], 0⟩ hargs (fun i v hv => by
      rw [← htm]
      have hi : i < args.length := (List.getElem?_eq_some_iff.1 hv).1
      simp [Array.getElem?_append, hi]
      exact (List.getElem?_eq_some_iff.1 hv).2) hR0 fun i hi => hi.elim
    refine wp_mono (code_sound hΓ (hΔ.later hbw) (hD hbw) b hdst k some _ _ r m tm hR hfr hr) ?_
    intro ex a w' hp
    have fini : ∀ (m' : St) (e' : Env), Rel w G fn.ntmps [] m' e' a.tmps → finish Γ e' c.res fn.results.toList = some r → ∃ v, (results fn a.tmps).run P m'.w = .ok v m'.w ∧ ∃ l, Ending.returned v = .returned (asRes l) ∧ Below w.heap.size w m'.w ∧ Ress m'.w (grown G w m'.w) c.res r l := by
      intro m' e' hR' hfin
      obtain ⟨l, g1, g2⟩ := finish_sound hΓ hR' _ _ _ hfin
      exact ⟨asRes l, results_run fn g1, l, rfl, hR'.ok.base, g2⟩
    cases ex with
    | normal =>
      obtain ⟨m', e', rfl, hd', hR', _, hK⟩ := hp
      exact ⟨hd', fini m' e' hR' hK⟩
    | ret =>
      obtain ⟨m', e', z, rfl, hd', hR', hz, he⟩ := hp
      obtain rfl := Option.some.inj he
      exact ⟨hd', fini m' e' hR' hz⟩
    | exit i =>
      obtain ⟨m', e', _, _, _, _, hK⟩ := hp
      simp at hK
    | _ => exact hp.elim
end
end Go.Ev
