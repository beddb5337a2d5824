import Derived.Test.YtfdmjgmipnohkaaSrEvF
import Derived.Test.YtfdmjgmipnohkaaSrEvA
import Derived.Sort.LotA
import Derived.Test.YtfdmjgmipnohkaaSrEvD
import Derived.Shelf.GgSortMore.Lays
import Derived.Shelf.SlSortFuncK.SWK
import Derived.Deep.LoopGhost
import Derived.Shelf.GgSortFunc.LotD
import Derived.Shelf.GgSortFunc.InsertionK
set_option linter.unusedSimpArgs false
set_option linter.unusedVariables false
set_option linter.unusedSectionVars false
section
namespace Go.Ev
open Go.RowKit (Below)
section
variable {P : Program} {w0 : Base} {G0 : Nat → Prop} {N : Nat} {Γ : Tab} {Δ : List (Nat × Con)} {A : Ann} {m : St} {e : Env} {tm : Array Value}
theorem startArg_sound {a : AT} {x : a.den} {v : Value} {s : Nat} {bl rest : List Nat} (h : ArgG m.w m.G m.H a x v bl) (hs : tm[s]? = some v) (hc : Cur w0 G0 N m e tm (bl ++ rest)) :
  ∃ m', Grow m m' ∧ Cur w0 G0 N m' (startArg e s a x) tm rest := by
 cases a with
 | val t =>
  obtain ⟨rfl, cs, hv, ha⟩ := h
  exact ⟨m, .refl m, hc.slot hs (sv_ofTy hv ha)⟩
 | srt Ts => exact h.elim
 | ptr t =>
  obtain ⟨rfl, b, o, cs, e1, hb, hcl, hv⟩ := h
  exact ⟨m, .refl m, hc.slot hs (sv := .one (.el t x 0)) ⟨b, o, cs, by simpa using e1, hb, hcl, hv⟩⟩
 | clo f ts =>
  obtain ⟨rfl, cv, e1, hcp⟩ := h
  exact ⟨m, .refl m, hc.slot hs (sv := .one (.clo f (startCaps ts x))) ⟨cv, e1, capsH_cp ts x cv hcp⟩⟩
 | io t =>
  obtain ⟨cs, ha, hv, hi⟩ := h
  obtain ⟨m', g, hc', r⟩ := hc.openT hv hi
  exact ⟨m', g, hc'.slot hs (svOf_sv r ha)⟩
 | own t =>
  obtain ⟨cs, ha, hv, hi⟩ := h
  obtain ⟨m', g, hc', r⟩ := hc.openT hv hi
  exact ⟨m', g, hc'.slot hs (svOf_sv r ha)⟩
 | var t =>
  obtain ⟨b, cs, T, bl', rfl, hh, hv, hi, rfl⟩ := h
  rw [List.append_assoc] at hc
  obtain ⟨m1, g1, hc1, r1⟩ := hc.openT hv hi
  obtain ⟨m2, g2, hc2, l2⟩ := hc1.var (T := T) (by rw [g1.w]; exact hh) r1
  exact ⟨m2, g1.trans g2, hc2.slot hs (sv := .one (.loc _ 0)) l2⟩
theorem startArgs_sound : ∀ (ats : List AT) (x : ATs.den ats) (l : List Value) (s : Nat) (m : St) (e : Env) (bl rest : List Nat), ArgsG m.w m.G m.H ats x l bl → (∀ i v, l[i]? = some v → tm[s + i]? = some v) → Cur w0 G0 N m e tm (bl ++ rest) →
  ∃ m', Grow m m' ∧ Cur w0 G0 N m' (startArgs e s ats x) tm rest
 | [], x, l, s, m, e, bl, rest, ⟨_, h⟩, ht, hc => by subst h; exact ⟨m, .refl m, hc⟩
 | a :: r, x, [], s, m, e, bl, rest, h, ht, hc => by simp [ArgsG] at h
 | a :: r, x, v :: l, s, m, e, bl, rest, ⟨b1, b2, e1, h1, h2⟩, ht, hc => by
  subst e1
  rw [List.append_assoc] at hc
  obtain ⟨m1, g1, c1⟩ := startArg_sound h1 (ht 0 v rfl) hc
  obtain ⟨m2, g2, c2⟩ := startArgs_sound r x.2 l (s + 1) m1 _ b2 rest (by rw [g1.w, g1.G, g1.H]; exact h2) (fun i u hu => by
   have := ht (i + 1) u (by simpa using hu)
   rwa [show s + 1 + i = s + (i + 1) from by omega]) c1
  exact ⟨m2, g1.trans g2, c2⟩
def resRun (tm : Array Value) : ResultVar → Sem Value
 | .tmp t => pure (tm.getD t undef)
 | .cell a t => do loadVar t (← asAddr (tm.getD a undef))
theorem results_eq (fn : Func) (tm : Array Value) : results fn tm = (do
  let vs ← fn.results.mapM (resRun tm)
  pure (if h : vs.size = 1 then vs[0] else .tuple vs)) := by
 unfold results
 congr 1
theorem run_mapM : ∀ (rs : List ResultVar) (l : List Value) (w : World), R2 (fun r v => (resRun tm r).run P w = .ok v w) rs l → (rs.mapM (resRun tm)).run P w = .ok l w
 | [], [], w, _ => by simp
 | r :: rs, v :: l, w, ⟨h1, h2⟩ => by
  have ih := run_mapM rs l w h2
  simp only [List.mapM_cons, Sem.run_bind, h1, Result.andThen_ok, ih, Sem.run_pure]
 | [], _ :: _, w, h => by simp [R2] at h
 | _ :: _, [], w, h => by simp [R2] at h
theorem results_run (fn : Func) {l : List Value} {w : World} (h : R2 (fun r v => (resRun tm r).run P w = .ok v w) fn.results.toList l) : (results fn tm).run P w = .ok (asRes l) w := by
 have h1 := run_mapM _ _ w h
 rw [results_eq, Array.mapM_eq_mapM_toList]
 simp only [Sem.run_bind, Sem.run_map, h1, Sem.run_pure, Result.andThen_ok]
 match l with
 | [] => simp [asRes]
 | [v] => simp [asRes]
 | a :: b :: r => simp [asRes]
def FinOk (P : Program) (w : World) (G : Nat → Prop) (tm : Array Value) (p : Sigma Ty.den) (v : Value) (bl : List Nat) : Fyn → Prop
 | .res r => (resRun tm r).run P w = .ok v w ∧ Own1 w G p v bl
 | .argv s => tm[s]? = some v ∧ OutG w G (.var p.1) p v bl
 | .argi s => tm[s]? = some v ∧ OutG w G (.io p.1) p v bl
def FinAll (P : Program) (w : World) (G : Nat → Prop) (tm : Array Value) : List (Sigma Ty.den) → List Fyn → List Value → List Nat → Prop
 | [], [], l, bl => l = [] ∧ bl = []
 | p :: ps, f :: fs, v :: l, bl => ∃ b1 b2, bl = b1 ++ b2 ∧ FinOk P w G tm p v b1 f ∧ FinAll P w G tm ps fs l b2
 | _, _, _, _ => False
theorem finVar_sound {Gr : Nat → Prop} {ov : List (Nat × Obj)} (hk : Tk m e.objs ov false Gr) {t : Ty} {id : Nat} {vs : List V} {x : t.den} (hf : find e.objs id = some (.var vs)) (hn : (idsT t vs ++ [id]).Nodup) (h : takeT false e.objs ov t vs = some x) :
  ∃ cs T bl, m.w.heap[m.β id]? = some (.cells (List.toArray cs) T (0, 0)) ∧ Val m.w Gr t x cs ∧ Inn m.w Gr t x cs bl ∧ (bl ++ [m.β id]).Nodup ∧ ∀ b ∈ bl ++ [m.β id], ∃ i ∈ idsT t vs ++ [id], blk e.objs m i b := by
 have hnd := List.nodup_append.1 hn
 obtain ⟨cs, T, hh, hr⟩ := hk.ho id _ hf
 obtain ⟨hval, bl, h3, h4, h5⟩ := takeT_sound hk hnd.1 h hr
 have hβ : blk e.objs m id (m.β id) := by unfold blk; rw [hf]
 refine ⟨cs, T, bl, hh, hval, h3, List.nodup_append.2 ⟨h4, by simp, fun p hp q hq e1 => ?_⟩, fun b hb => ?_⟩
 ·subst e1
  simp only [List.mem_singleton] at hq
  subst hq
  obtain ⟨i, hi, hb⟩ := h5 _ hp
  exact hnd.2.2 i hi id (by simp) (hk.inj i id _ hb hβ)
 ·rcases List.mem_append.1 hb with hb | hb
  ·obtain ⟨i, hi, hb⟩ := h5 _ hb
   exact ⟨i, List.mem_append_left _ hi, hb⟩
  ·simp only [List.mem_singleton] at hb
   subst hb
   exact ⟨id, by simp, hβ⟩
theorem resOf1_sound {Gr : Nat → Prop} {ov : List (Nat × Obj)} (hΓ : TabOk P Γ) (hk : Tk m e.objs ov false Gr) (hR : Rel w0 G0 N [] m e tm) {t : Ty} {f : Fyn} {x : t.den} (hn : (finIds e t f).Nodup) (h : resOf1 Γ e.objs ov e t f = some x) :
  ∃ v bl, FinOk P m.w Gr tm ⟨t, x⟩ v bl f ∧ bl.Nodup ∧ ∀ b ∈ bl, ∃ i ∈ finIds e t f, blk e.objs m i b := by
 cases f with
 | res r =>
  cases r with
  | tmp s =>
   simp only [resOf1] at h
   cases hs : e.get s with
   | none => simp [hs] at h
   | some sv =>
    simp only [hs] at h
    simp only [finIds, finSlot, finVar, hs] at hn ⊢
    obtain ⟨v, hv, hsv⟩ := hR.slots s sv hs
    obtain ⟨cs, h1, h2, bl, h3, h4, h5⟩ := y79q hk hn h hsv
    exact ⟨v, bl, ⟨by simp [resRun, Array.getD_eq_getD_getElem?, hv], cs, h1, h2, h3⟩, h4, h5⟩
  | cell s T =>
   simp only [resOf1] at h
   cases hf : find Γ T with
   | none => simp [hf] at h
   | some ti =>
    cases hs : e.get s with
    | none => simp [hf, hs] at h
    | some sv =>
     obtain ⟨v, hv, hsv⟩ := hR.slots s sv hs
     cases sv with
     | one y =>
      cases y with
      | loc id off =>
       cases off with
       | succ => simp [hf, hs] at h
       | zero =>
        simp only [hf, hs] at h
        cases ht : tyEq ti.ty.era t.era with
        | false => simp [ht] at h
        | true =>
         cases ho : find e.objs id with
         | none => simp [ht, ho] at h
         | some o =>
          cases o with
          | var vs =>
           simp only [ht, ho] at h
           have ho2 : e.obj id = some (.var vs) := ho
           simp only [finIds, finSlot, finVar, hs, ho2] at hn ⊢
           obtain ⟨cs, U, bl, hh, hval, hin, hnd, hb⟩ := finVar_sound hk ho hn h
           have hsz : ti.ty.size = t.size := by rw [← size_era ti.ty, ← size_era t, y74q ht]
           have hag : ti.ty.isAgg = t.isAgg := by
            have key : ∀ u : Ty, u.era.isAgg = u.isAgg := fun u => by cases u <;> rfl
            rw [← key ti.ty, ← key t, y74q ht]
           obtain ⟨_, e1⟩ := hsv
           obtain ⟨z, g1, g2⟩ := run_load' (hΓ T ti hf) (cells_of_heap hh) (by rw [hsz]; exact hval.length)
           have hnd' := List.nodup_append.1 hnd
           refine ⟨z, bl, ⟨?_, cs, ?_, hval, hin⟩, hnd'.1, fun b hm => hb b (List.mem_append_left _ hm)⟩
           ·rw [← g1]
            simp [resRun, Array.getD_eq_getD_getElem?, hv, e1, asAddr, Instr.loadAt, Instr.sureAddr]
           ·unfold AsVal at g2 ⊢
            rw [← hag]; exact g2
          | _ => simp [ht, ho] at h
      | _ => simp [hf, hs] at h
     | _ => simp [hf, hs] at h
 | argv s =>
  simp only [resOf1] at h
  cases hs : e.get s with
  | none => simp [hs] at h
  | some sv =>
   obtain ⟨v, hv, hsv⟩ := hR.slots s sv hs
   cases sv with
   | one y =>
    cases y with
    | loc id off =>
     cases off with
     | succ => simp [hs] at h
     | zero =>
      simp only [hs] at h
      cases ho : find e.objs id with
      | none => simp [ho] at h
      | some o =>
       cases o with
       | var vs =>
        simp only [ho] at h
        have ho2 : e.obj id = some (.var vs) := ho
        simp only [finIds, finSlot, finVar, hs, ho2] at hn ⊢
        obtain ⟨cs, U, bl, hh, hval, hin, hnd, hb⟩ := finVar_sound hk ho hn h
        exact ⟨v, bl ++ [m.β id], ⟨hv, rfl, m.β id, cs, U, bl, hsv.2, hh, hval, hin, rfl⟩, hnd, hb⟩
       | _ => simp [ho] at h
    | _ => simp [hs] at h
   | _ => simp [hs] at h
 | argi s =>
  simp only [resOf1] at h
  cases hs : e.get s with
  | none => simp [hs] at h
  | some sv =>
   simp only [hs] at h
   simp only [finIds, finSlot, finVar, hs] at hn ⊢
   obtain ⟨v, hv, hsv⟩ := hR.slots s sv hs
   obtain ⟨cs, h1, h2, bl, h3, h4, h5⟩ := y79q hk hn h hsv
   exact ⟨v, bl, ⟨hv, rfl, cs, h1, h2, h3⟩, h4, h5⟩
theorem finishL_sound {Gr : Nat → Prop} {ov : List (Nat × Obj)} (hΓ : TabOk P Γ) (hk : Tk m e.objs ov false Gr) (hR : Rel w0 G0 N [] m e tm) : ∀ (res : List Ty) (fs : List Fyn) (x : den1 res), (finAll e res fs).Nodup → finishL Γ e.objs ov e res fs = some x →
  ∃ l bl, FinAll P m.w Gr tm (parts res x) fs l bl ∧ bl.Nodup ∧ ∀ b ∈ bl, ∃ i ∈ finAll e res fs, blk e.objs m i b
 | [], [], x, _, h => ⟨[], [], ⟨rfl, rfl⟩, List.nodup_nil, fun b hb => by simp at hb⟩
 | [t], [r], x, hn, h => by
  simp only [finishL] at h
  simp only [finAll, List.append_nil] at hn ⊢
  obtain ⟨v, bl, h1, h2, h3⟩ := resOf1_sound hΓ hk hR hn h
  exact ⟨[v], bl, ⟨bl, [], by simp, h1, rfl, rfl⟩, h2, h3⟩
 | t :: u :: l, r :: rs, x, hn, h => by
  simp only [finishL] at h
  have hn' : (finIds e t r ++ finAll e (u :: l) rs).Nodup := hn
  have hnd := List.nodup_append.1 hn'
  cases h1 : resOf1 Γ e.objs ov e t r with
  | none => simp [h1] at h
  | some y =>
   cases h2 : finishL Γ e.objs ov e (u :: l) rs with
   | none => simp [h1, h2] at h
   | some z =>
    simp only [h1, h2, Option.some.injEq] at h
    subst h
    obtain ⟨v, b1, g1, g2, g3⟩ := resOf1_sound hΓ hk hR hnd.1 h1
    obtain ⟨vs, b2, k1, k2, k3⟩ := finishL_sound hΓ hk hR (u :: l) rs z hnd.2.1 h2
    refine ⟨v :: vs, b1 ++ b2, ⟨b1, b2, rfl, g1, k1⟩, List.nodup_append.2 ⟨g2, k2, fun p hp q hq e1 => ?_⟩, fun b hb => ?_⟩
    ·subst e1
     obtain ⟨i, hi, q1⟩ := g3 p hp
     obtain ⟨j, hj, q2⟩ := k3 p hq
     exact hnd.2.2 i hi j hj (hk.inj i j p q1 q2)
    ·rcases List.mem_append.1 hb with hb | hb
     ·obtain ⟨i, hi, q⟩ := g3 b hb
      exact ⟨i, List.mem_append_left _ hi, q⟩
     ·obtain ⟨i, hi, q⟩ := k3 b hb
      exact ⟨i, List.mem_append_right _ hi, q⟩
 | [], _ :: _, x, _, h => by simp [finishL] at h
 | [_], [], x, _, h => by simp [finishL] at h
 | [_], _ :: _ :: _, x, _, h => by simp [finishL] at h
 | _ :: _ :: _, [], x, _, h => by simp [finishL] at h
theorem finish_sound (hΓ : TabOk P Γ) (hR : Rel w0 G0 N [] m e tm) {res : List Ty} {fs : List Fyn} {x : den1 res} (h : finish Γ e res fs = some x) :
  ∃ (G' : Nat → Prop) (l : List Value) (bl : List Nat), FinAll P m.w G' tm (parts res x) fs l bl ∧ bl.Nodup ∧ (∀ b, G' b → (G0 b ∨ Mine w0 b) ∧ b < m.w.heap.size) ∧ ∀ b ∈ bl, ¬ G' b ∧ b < m.w.heap.size ∧ Mine w0 b := by
 unfold finish at h
 cases hn : nodupN (finAll e res fs) with
 | false => simp [hn] at h
 | true =>
  simp only [hn] at h
  obtain ⟨hk, _, hout⟩ := rel_split hR (finAll e res fs)
  obtain ⟨l, bl, h1, h2, h3⟩ := finishL_sound hΓ hk hR res fs x (y78q _ hn) h
  refine ⟨_, l, bl, h1, h2, fun b hb => ?_, fun b hb => ?_⟩
  ·rcases hb with hb | hb
   ·exact ⟨hR.ok.subG b hb, hR.ok.liveG b hb⟩
   ·exact ⟨.inr (rel_splitG hR _ hb).2, (rel_splitG hR _ hb).1⟩
  ·obtain ⟨i, hi, hbi⟩ := h3 b hb
   obtain ⟨o1, _, o3, o4⟩ := hout i b hi hbi
   exact ⟨o1, o3, o4⟩
theorem FinAll.split {w : World} {G : Nat → Prop} : ∀ {ps : List (Sigma Ty.den)} {f1 f2 : List Fyn} {l : List Value} {bl : List Nat}, FinAll P w G tm ps (f1 ++ f2) l bl → ∃ l1 l2 b1 b2, l = l1 ++ l2 ∧ bl = b1 ++ b2 ∧ FinAll P w G tm (ps.take f1.length) f1 l1 b1 ∧ FinAll P w G tm (ps.drop f1.length) f2 l2 b2
 | ps, [], f2, l, bl, h => ⟨[], l, [], bl, rfl, rfl, by simp [FinAll], by simpa using h⟩
 | [], f :: f1, f2, l, bl, h => by simp [FinAll] at h
 | p :: ps, f :: f1, f2, [], bl, h => by simp [FinAll] at h
 | p :: ps, f :: f1, f2, v :: l, bl, ⟨c1, c2, e, h1, h2⟩ => by
  subst e
  obtain ⟨l1, l2, b1, b2, rfl, rfl, k1, k2⟩ := FinAll.split h2
  exact ⟨v :: l1, l2, c1 ++ b1, b2, rfl, by simp, ⟨c1, b1, rfl, h1, k1⟩, k2⟩
theorem FinAll.res {w : World} {G : Nat → Prop} : ∀ {ps : List (Sigma Ty.den)} {rs : List ResultVar} {l : List Value} {bl : List Nat}, FinAll P w G tm ps (rs.map .res) l bl → R2 (fun r v => (resRun tm r).run P w = .ok v w) rs l ∧ ResG w G ps l bl
 | [], [], l, bl, ⟨h1, h2⟩ => by subst h1; subst h2; exact ⟨trivial, rfl, rfl⟩
 | p :: ps, r :: rs, v :: l, bl, ⟨b1, b2, e, ⟨h1, h2⟩, h3⟩ => by
  obtain ⟨k1, k2⟩ := FinAll.res h3
  exact ⟨⟨h1, k1⟩, b1, b2, e, h2, k2⟩
 | [], _ :: _, l, bl, h => by simp [FinAll] at h
 | _ :: _, [], l, bl, h => by simp [FinAll] at h
 | _ :: _, _ :: _, [], bl, h => by simp [FinAll] at h
theorem tysEq_eq : ∀ {a b : List Ty}, tysEq a b = true → a = b
 | [], [], _ => rfl
 | t :: r, u :: s, h => by
  simp only [tysEq, Bool.and_eq_true] at h
  rw [y74q h.1, tysEq_eq h.2]
 | [], _ :: _, h => by simp [tysEq] at h
 | _ :: _, [], h => by simp [tysEq] at h
theorem FinAll.outs {w : World} {G : Nat → Prop} : ∀ {ats : List AT} {s : Nat} {ps : List (Sigma Ty.den)} {l args : List Value} {bl : List Nat}, FinAll P w G tm ps (y96q s ats) l bl → ps.map (·.1) = outTys ats → (∀ i v, i ∈ y75q s ats → args[i - s]? = some v → tm[i]? = some v) → args.length = ats.length → OutsG w G ats args ps bl
 | [], s, ps, l, args, bl, h, ht, hp, hl => by
  cases args with
  | cons => simp at hl
  | nil =>
   cases ps with
   | nil => exact ⟨rfl, h.2⟩
   | cons => simp [y96q, FinAll] at h
 | a :: r, s, ps, l, [], bl, h, ht, hp, hl => by simp at hl
 | a :: r, s, ps, l, u :: args, bl, h, ht, hp, hl => by
  have hl' : args.length = r.length := by simpa using hl
  have skip : isIo a = false → y96q s (a :: r) = y96q (s + 1) r → outTys (a :: r) = outTys r → y75q s (a :: r) = y75q (s + 1) r → OutsG w G (a :: r) (u :: args) ps bl := by
   intro h0 h1 h2 h3
   simp only [OutsG, h0]
   rw [h1] at h
   rw [h2] at ht
   rw [h3] at hp
   refine FinAll.outs h ht (fun i v hi hv => hp i v hi ?_) hl'
   have hge : ∀ (ats : List AT) (s i : Nat), i ∈ y75q s ats → s ≤ i := by
    intro ats
    induction ats with
    | nil => intro s i hi; simp [y75q] at hi
    | cons a r ih =>
     intro s i hi
     cases a <;> simp only [y75q, List.mem_cons] at hi <;> first
      | (have := ih (s + 1) i hi; omega)
      | (rcases hi with hi | hi <;> first | omega | (have := ih (s + 1) i hi; omega))
   have := hge _ _ _ hi
   rw [show i - s = (i - (s + 1)) + 1 from by omega]
   simpa using hv
  have take : ∀ (t : Ty) (f : Fyn), isIo a = true → y96q s (a :: r) = f :: y96q (s + 1) r → outTys (a :: r) = t :: outTys r → y75q s (a :: r) = s :: y75q (s + 1) r →
    (∀ p v b, p.1 = t → FinOk P w G tm p v b f → tm[s]? = some v ∧ OutG w G a p v b) → OutsG w G (a :: r) (u :: args) ps bl := by
   intro t f h0 h1 h2 h3 h4
   simp only [OutsG, h0]
   rw [h1] at h
   rw [h2] at ht
   rw [h3] at hp
   cases ps with
   | nil => simp [FinAll] at h
   | cons p ps =>
    cases l with
    | nil => simp [FinAll] at h
    | cons v l =>
     obtain ⟨b1, b2, e, k1, k2⟩ := h
     simp only [List.map_cons, List.cons.injEq] at ht
     obtain ⟨q1, q2⟩ := h4 p v b1 ht.1 k1
     have := hp s u (by simp) (by simp)
     rw [q1] at this
     obtain rfl := Option.some.inj this
     refine ⟨p, ps, b1, b2, rfl, e, q2, FinAll.outs k2 ht.2 (fun i v hi hv => hp i v (List.mem_cons_of_mem _ hi) ?_) hl'⟩
     have hge : ∀ (ats : List AT) (s i : Nat), i ∈ y75q s ats → s ≤ i := by
      intro ats
      induction ats with
      | nil => intro s i hi; simp [y75q] at hi
      | cons a r ih =>
       intro s i hi
       cases a <;> simp only [y75q, List.mem_cons] at hi <;> first
        | (have := ih (s + 1) i hi; omega)
        | (rcases hi with hi | hi <;> first | omega | (have := ih (s + 1) i hi; omega))
     have := hge _ _ _ hi
     rw [show i - s = (i - (s + 1)) + 1 from by omega]
     simpa using hv
  cases a with
  | var t => exact take t (.argv s) rfl rfl rfl rfl fun p v b hp hf => by subst hp; exact hf
  | io t => exact take t (.argi s) rfl rfl rfl rfl fun p v b hp hf => by subst hp; exact hf
  | _ => exact skip rfl rfl rfl rfl
theorem argsG_length : ∀ {ats : List AT} {x : ATs.den ats} {l : List Value} {w : World} {G H : Nat → Prop} {bl : List Nat}, ArgsG w G H ats x l bl → l.length = ats.length
 | [], x, l, w, G, H, bl, ⟨h, _⟩ => by subst h; rfl
 | a :: r, x, [], w, G, H, bl, h => by simp [ArgsG] at h
 | a :: r, x, v :: l, w, G, H, bl, ⟨_, _, _, _, h⟩ => by simp [argsG_length h]
theorem fn_core {B : Base} (hΓ : TabOk P Γ) (hΔ : DelOk P B.o Δ) (hD : DrawSound P B.o Γ Δ) {f : Nat} {fn : Func} (hf : P.funcs[f]? = some fn) {ats : List AT} {res : List Ty} (hok : (match fn.body with
   | some b => y46q B.ps fn.ntmps b && Nat.ble ats.length fn.ntmps
   | none => false) = true) {k : Nat} {x : ATs.den ats} {r : den1 res} (hr : evFn Γ Δ A fn ats res k x = some r) {G H : Nat → Prop} {args : List Value} {bl : List Nat} (hargs : ArgsG B.w G H ats x args bl) (hnd : bl.Nodup)
  (hbl : ∀ b ∈ bl, ¬ G b ∧ ¬ H b ∧ b < B.w.heap.size ∧ Mine B b) (hG : ∀ b, G b → b < B.w.heap.size) (hH : ∀ b, H b → b < B.w.heap.size) (hGH : ∀ b, G b → H b) (hB : Kept B B.w) (hpin : ∀ i v, (i, v) ∈ B.pins → args[i]? = some v) :
  Calls P f args.toArray B.w fun en w' => ∃ (G' : Nat → Prop) (l : List Value) (bl' : List Nat) (tm' : Array Value), en = .returned (asRes (l.take fn.results.toList.length)) ∧ Kept B w' ∧ (∀ i v, (i, v) ∈ B.pins → tm'[i]? = some v) ∧ FinAll P w' G' tm' (parts res r) (finsOf fn.results.toList ats) l bl' ∧ bl'.Nodup ∧
   (∀ b, G' b → (G b ∨ Mine B b) ∧ b < w'.heap.size) ∧ ∀ b ∈ bl', ¬ G' b ∧ b < w'.heap.size ∧ Mine B b := by
 unfold evFn at hr
 cases hb : fn.body with
 | none => simp [hb] at hr
 | some b =>
  rw [hb] at hr hok
  simp only [Bool.and_eq_true] at hr hok
  obtain ⟨hdst, hn⟩ := hok
  have hn := Nat.le_of_ble_eq_true hn
  have hlen := argsG_length hargs
  refine calls_of_wp hf hb ?_
  generalize htm : args.toArray ++ Array.replicate (fn.ntmps - args.toArray.size) undef = tm
  have hsize : tm.size = fn.ntmps := by rw [← htm]; simp; omega
  have hget : ∀ i v, args[i]? = some v → tm[i]? = some v := fun i v hv => by
   rw [← htm]
   have hi : i < args.length := (List.getElem?_eq_some_iff.1 hv).1
   rw [Array.getElem?_append_left (by simpa using hi)]
   simpa using hv
  let m : St := ⟨B.w, G, H, fun _ => 0, fun _ => .bool true, fun _ => False, fun _ => [], fun _ _ => .bool true⟩
  have hok0 : ObjsOk B G m [] := ⟨hB, fun i o hf => by simp [find] at hf, fun i j b hb => by simp [blk, find] at hb, fun i b hb => by simp [blk, find] at hb, hG, hH, fun b hb => .inl hb, hGH⟩
  have hR0 : Rel B G fn.ntmps [] m ⟨[], [], 0⟩ tm := ⟨hok0, fun i o hf => by simp [find] at hf, ⟨hsize, fun i v hi => hget i v (hpin i v hi)⟩, fun t sv hf => by simp [find] at hf⟩
  have hc0 : Cur B G fn.ntmps m ⟨[], [], 0⟩ tm (bl ++ []) := by
   rw [List.append_nil]
   exact ⟨hR0, fun i hi => hi.elim, fun i b hb => by simp [blk, find] at hb, hnd, hbl⟩
  obtain ⟨m1, g1, c1⟩ := startArgs_sound ats x args 0 m ⟨[], [], 0⟩ bl [] hargs (fun i v hv => by rw [Nat.zero_add]; exact hget i v hv) hc0
  have hw1 : m1.w = B.w := g1.w
  rw [← hw1]
  refine wp_mono (y90q (w0 := B) hΓ hΔ hD b hdst k some _ _ r m1 tm c1.rel c1.fresh hr) ?_
  intro ex a w' hp
  have fini : ∀ (m' : St) (e' : Env), Rel B G fn.ntmps [] m' e' a.tmps → finish Γ e' res (finsOf fn.results.toList ats) = some r → ∃ v, (results fn a.tmps).run P m'.w = .ok v m'.w ∧
    ∃ (G' : Nat → Prop) (l : List Value) (bl' : List Nat) (tm' : Array Value), Ending.returned v = .returned (asRes (l.take fn.results.toList.length)) ∧ Kept B m'.w ∧ (∀ i v, (i, v) ∈ B.pins → tm'[i]? = some v) ∧ FinAll P m'.w G' tm' (parts res r) (finsOf fn.results.toList ats) l bl' ∧ bl'.Nodup ∧
     (∀ b, G' b → (G b ∨ Mine B b) ∧ b < m'.w.heap.size) ∧ ∀ b ∈ bl', ¬ G' b ∧ b < m'.w.heap.size ∧ Mine B b := by
   intro m' e' hR' hfin
   obtain ⟨G', l, bl', q1, q2, q3, q4⟩ := finish_sound hΓ hR' hfin
   obtain ⟨l1, l2, b1, b2, e1, e2, s1, _⟩ := FinAll.split (f1 := fn.results.toList.map .res) (f2 := y96q 0 ats) q1
   obtain ⟨u1, _⟩ := FinAll.res s1
   have hl1 : l.take fn.results.toList.length = l1 := by
    rw [e1, ← show l1.length = fn.results.toList.length from u1.length.symm]
    simp
   exact ⟨asRes l1, results_run fn u1, G', l, bl', a.tmps, by rw [hl1], hR'.ok.base, hR'.tms.2, q1, q2, q3, q4⟩
  cases ex with
  | normal =>
   obtain ⟨m', e', rfl, hd', hR', _, hK⟩ := hp
   exact ⟨hd', fini m' e' hR' hK⟩
  | ret =>
   obtain ⟨m', e', z, rfl, hd', hR', hz, he⟩ := hp
   obtain rfl := Option.some.inj he
   exact ⟨hd', fini m' e' hR' hz⟩
  | exit i =>
   obtain ⟨m', e', _, _, _, _, hK⟩ := hp
   simp at hK
  | _ => exact hp.elim
theorem args_G {w : World} {G H : Nat → Prop} : ∀ {ats : List AT} {x : ATs.den ats} {l : List Value}, ArgsH w G H ats x l → ArgsG w G H ats x l []
 | [], x, l, h => ⟨h, rfl⟩
 | a :: r, x, [], h => by simp [ArgsH] at h
 | a :: r, x, v :: l, ⟨h1, h2⟩ => by
  refine ⟨[], [], rfl, ?_, args_G h2⟩
  cases a <;> first | exact ⟨rfl, h1⟩ | exact h1.elim
theorem ress_of {w : World} {G : Nat → Prop} : ∀ {ts : List Ty} {x : den1 ts} {l : List Value} {bl : List Nat}, ResG w G (parts ts x) l bl → Ress w G ts x l
 | [], x, l, bl, ⟨h, _⟩ => h
 | [t], x, [v], bl, ⟨b1, b2, e, ⟨cs, h1, h2, h3⟩, h4⟩ => ⟨v, rfl, cs, h2, h1⟩
 | [t], x, [], bl, h => h.elim
 | [t], x, v :: u :: l, bl, ⟨b1, b2, e, _, h4, _⟩ => by simp at h4
 | t :: u :: r, x, [], bl, h => h.elim
 | t :: u :: r, x, v :: l, bl, ⟨b1, b2, e, ⟨cs, h1, h2, h3⟩, h4⟩ => ⟨v, l, rfl, ⟨cs, h2, h1⟩, ress_of h4⟩
theorem hasIo_outs : ∀ {ats : List AT} {s : Nat}, hasIo ats = false → y96q s ats = []
 | [], _, _ => rfl
 | a :: r, s, h => by
  cases a <;> simp only [hasIo, Bool.true_eq_false] at h <;> simp only [y96q] <;> exact hasIo_outs h
theorem y12q {w0 : World} (hΓ : TabOk P Γ) (hΔ : DelOk P w0 Δ) (hD : ∀ {w : World}, Below w0.heap.size w0 w → DrawSound P w Γ Δ) {f : Nat} {fn : Func} (hf : P.funcs[f]? = some fn) {c : Con} (hok : (match fn.body with
   | some b => y46q [] fn.ntmps b && Nat.ble c.args.length fn.ntmps
   | none => false) = true) (heq : ∀ k x, c.fn k x = evFn Γ Δ A fn c.args c.res k x) (hno : hasIo c.args = false) : ConOk P w0 f c := by
 intro k x r w G args hbw hG hr hargs
 rw [heq] at hr
 let B : Base := ⟨w, w, fun _ => False, []⟩
 refine Calls.mono (fn_core (B := B) (G := G) (H := fun b => b < w.heap.size) hΓ (hΔ.later hbw) (hD hbw) hf hok hr (args_G hargs) List.nodup_nil (fun b hb => by simp at hb) hG (fun _ h => h) hG (.refl B (Below.refl _ _) (fun _ h => h.elim)) (fun i v hi => by simp [B] at hi)) ?_
 rintro en w' ⟨G', l, bl', tm', rfl, hk, _, hfin, _, hG', _⟩
 have hfs : finsOf fn.results.toList c.args = fn.results.toList.map .res := by unfold finsOf; rw [hasIo_outs hno, List.append_nil]
 rw [hfs] at hfin
 obtain ⟨u1, u2⟩ := FinAll.res hfin
 have hl : l.take fn.results.toList.length = l := by rw [u1.length]; simp
 rw [hl]
 refine ⟨l, rfl, hk.old, ?_⟩
 exact ress_of (ResG.grow (fun b hb => by
  obtain ⟨h1, h2⟩ := hG' b hb
  rcases h1 with h | h | h
  ·exact .inl h
  ·exact .inr ⟨h, h2⟩
  ·exact h.elim) u2)
theorem parts_length : ∀ {ts : List Ty} {y : den1 ts}, (parts ts y).map (·.1) = ts
 | [], _ => rfl
 | [t], _ => rfl
 | t :: u :: r, x => by
  show t :: (parts (u :: r) x.2).map (·.1) = t :: u :: r
  rw [parts_length]
theorem argFins_length : ∀ {ats : List AT} {s : Nat}, (y96q s ats).length = nIo ats
 | [], _ => rfl
 | a :: r, s => by cases a <;> simp [y96q, nIo, isIo, argFins_length (ats := r) (s := s + 1)]
theorem FinAll.length {w : World} {G : Nat → Prop} : ∀ {ps : List (Sigma Ty.den)} {fs : List Fyn} {l : List Value} {bl : List Nat}, FinAll P w G tm ps fs l bl → ps.length = fs.length
 | [], [], _, _, _ => rfl
 | _ :: _, _ :: _, _ :: _, _, ⟨_, _, _, _, h⟩ => by simp [FinAll.length h]
 | _ :: _, _ :: _, [], _, h => by simp [FinAll] at h
 | [], _ :: _, _, _, h => by simp [FinAll] at h
 | _ :: _, [], _, _, h => by simp [FinAll] at h
theorem y40q {w0 : World} (hΓ : TabOk P Γ) (hΔ : DelOk P w0 Δ) (hD : ∀ {w : World}, Below w0.heap.size w0 w → DrawSound P w Γ Δ) {f : Nat} {fn : Func} (hf : P.funcs[f]? = some fn) {c : Con} (hok : (match fn.body with
   | some b => y46q (y75q 0 c.args) fn.ntmps b && Nat.ble c.args.length fn.ntmps
   | none => false) = true) (heq : ∀ k x, c.fn k x = evFn Γ Δ A fn c.args c.res k x) (hty : tysEq (dropN c.nres c.res) (outTys c.args) = true) : GenCon P w0 f c := by
 intro k x r w G H args bl hbw hG hH hGH hargs hnd hbl hr
 rw [heq] at hr
 have hlen := argsG_length hargs
 let B : Base := ⟨w, w0, fun b => b ∈ bl, (y75q 0 c.args).filterMap fun i => (args[i]?).map fun v => (i, v)⟩
 have hps : ∀ i, i ∈ B.ps → i ∈ y75q 0 c.args := fun i hi => by
  obtain ⟨p, hp, rfl⟩ := List.mem_map.1 hi
  obtain ⟨j, hj, he⟩ := List.mem_filterMap.1 hp
  cases ha : args[j]? with
  | none => rw [ha] at he; simp at he
  | some v =>
   rw [ha] at he
   simp only [Option.map_some, Option.some.injEq] at he
   subst he
   exact hj
 have hpin : ∀ i v, (i, v) ∈ B.pins → args[i]? = some v := fun i v hi => by
  obtain ⟨j, hj, he⟩ := List.mem_filterMap.1 hi
  cases ha : args[j]? with
  | none => rw [ha] at he; simp at he
  | some u =>
   rw [ha] at he
   simp only [Option.map_some, Option.some.injEq, Prod.mk.injEq] at he
   obtain ⟨rfl, rfl⟩ := he
   exact ha
 have hpin2 : ∀ i v, i ∈ y75q 0 c.args → args[i]? = some v → (i, v) ∈ B.pins := fun i v hi hv => List.mem_filterMap.2 ⟨i, hi, by rw [hv]; rfl⟩
 have hok' : (match fn.body with
   | some b => y46q B.ps fn.ntmps b && Nat.ble c.args.length fn.ntmps
   | none => false) = true := by
  cases hb : fn.body with
  | none => rw [hb] at hok; simp at hok
  | some b =>
   rw [hb] at hok
   simp only [Bool.and_eq_true] at hok ⊢
   exact ⟨y61q hps b hok.1, hok.2⟩
 refine Calls.mono (fn_core (B := B) (G := G) (H := H) hΓ hΔ (hD (Below.refl _ _)) hf hok' hr hargs hnd (fun b hb => ⟨(hbl b hb).1, (hbl b hb).2.1, (hbl b hb).2.2.1, .inr hb⟩) hG hH hGH (.refl B hbw fun b hb => (hbl b hb).2.2.2) hpin) ?_
 rintro en w' ⟨G', l, bl', tm', rfl, hk, hpins, hfin, hnd', hG', hbl'⟩
 have hfl := hfin.length
 obtain ⟨l1, l2, b1, b2, rfl, rfl, s1, s2⟩ := FinAll.split (f1 := fn.results.toList.map .res) (f2 := y96q 0 c.args) hfin
 obtain ⟨u1, u2⟩ := FinAll.res s1
 have hl1 : (l1 ++ l2).take fn.results.toList.length = l1 := by
  rw [show fn.results.toList.length = l1.length from u1.length]
  simp
 have hn : c.nres = fn.results.toList.length := by
  have h1 : (parts c.res r).length = c.res.length := by
   have := congrArg List.length (parts_length (y := r))
   simpa using this
  rw [h1] at hfl
  unfold finsOf at hfl
  rw [List.length_append, List.length_map, argFins_length] at hfl
  unfold Con.nres
  rw [y124q]
  omega
 rw [hl1]
 rw [List.length_map] at s2 u2
 refine ⟨l1, G', b1, b2, rfl, ⟨hk.os, hk.tape, hk.output, hk.size, hk.block, hk.old, hk.oldM, hk.oldS⟩, fun b hb => ⟨(hG' b hb).1, (hG' b hb).2⟩, ?_, ?_, hnd', fun b hb => ⟨(hbl' b hb).1, (hbl' b hb).2.1, (hbl' b hb).2.2⟩⟩
 ·rw [takeN_eq, hn]; exact u2
 ·rw [y119q, hn]
  have hty' := tysEq_eq hty
  rw [y119q, hn] at hty'
  refine FinAll.outs s2 ?_ (fun i v hi hv => hpins i v (hpin2 i v hi (by simpa using hv))) hlen
  rw [← hty', List.map_drop, parts_length]
end
end Go.Ev
end
section
namespace Go.Ev
section
variable {P : Program} {Γ : Tab} {Δ : List (Nat × Con)}
def Keeps (P : Program) (w0 : World) (f : Nat) (c : Con) : Prop := (c.gen = false → ConOk P w0 f c) ∧ (c.gen = true → GenCon P w0 f c)
theorem Keeps.con {w0 : World} {f : Nat} {c : Con} (h : ConOk P w0 f c) (hg : c.gen = false) : Keeps P w0 f c := ⟨fun _ => h, fun q => (by rw [hg] at q; cases q)⟩
theorem Keeps.gn {w0 : World} {f : Nat} {c : Con} (h : GenCon P w0 f c) (hg : c.gen = true) : Keeps P w0 f c := ⟨fun q => (by rw [hg] at q; cases q), fun _ => h⟩
theorem DelOk.nil {w0 : World} : DelOk P w0 [] := fun f c h => by simp at h
theorem DelOk.cons {w0 : World} {f : Nat} {c : Con} (h : Keeps P w0 f c) (he : Enters' P f) (hd : DelOk P w0 Δ) (hs : SrtCon P f c := by exact True.intro) : DelOk P w0 ((f, c) :: Δ) := by
 intro g d hm
 rcases List.mem_cons.1 hm with e | e
 ·cases e; exact ⟨h.1, he, hs, h.2⟩
 ·exact hd g d e
theorem enters' {f : Nat} {fn : Func} (hf : P.funcs[f]? = some fn) (h : (!(fn.name == "runtime.NumGoroutine") && fn.body.isSome) = true) : Enters' P f := by
 intro args w
 simp only [Bool.and_eq_true, Bool.not_eq_true'] at h
 obtain ⟨h1, h2⟩ := h
 have h3 : fn.name ≠ "runtime.NumGoroutine" := by simpa using h1
 cases hb : fn.body with
 | none => rw [hb] at h2; simp at h2
 | some b => simp [callFunc, hf, h3, hb, mark]
theorem draws_of {w0 : World} (hΓ : TabOk P Γ) (hΔ : DelOk P w0 Δ) (hm : P.follows .mixedOrders = true) {w : World} (hb : Go.RowKit.Below w0.heap.size w0 w) : DrawSound P w Γ Δ := draw_sound hΓ (hΔ.later hb) hm
theorem tab_of (h : tabOk P Γ Γ = true) : TabOk P Γ := tabOk_ok h
theorem br_true {ρ : Type} (x y : Option ρ) : br true x y = x := rfl
theorem y58q {ρ : Type} (x y : Option ρ) : br false x y = y := rfl
theorem bnd_none {α ρ : Type} (f : α → Option ρ) : bnd none f = none := rfl
theorem y6q {α ρ : Type} (y : α) (f : α → Option ρ) : bnd (some y) f = f y := rfl
theorem chk_true {ρ : Type} (x : Option ρ) : chk true x = x := rfl
theorem y99q {α ρ σ : Type} (y : α) (f : α → Option σ) (g : ρ → Option σ) : onSum (.inl y : α ⊕ ρ) f g = f y := rfl
theorem onSum_inr {α ρ σ : Type} (z : ρ) (f : α → Option σ) (g : ρ → Option σ) : onSum (.inr z : α ⊕ ρ) f g = g z := rfl
end
end Go.Ev
end
section
namespace Go.Ev
open Go.Sort (swp)
section
variable {α : Type} [Inhabited α]
theorem arr_get {d : Array α} {P Q : List α} {x : α} (h : d.toList = P ++ x :: Q) : d[P.length]! = x := by
 have : d.toList[P.length]? = some x := by rw [h]; simp
 have hs : P.length < d.size := by
  rw [← Array.length_toList, h]; simp
 rw [getElem!_pos d P.length hs]
 rw [← Array.getElem_toList] 
 rw [List.getElem?_eq_getElem (by simpa using hs)] at this
 exact Option.some.inj this
theorem swp_list {d : Array α} {P M Q : List α} {x y : α} (h : d.toList = P ++ x :: (M ++ y :: Q)) {i j : Nat} (hi : i = P.length) (hj : j = P.length + 1 + M.length) : (swp d i j).toList = P ++ y :: (M ++ x :: Q) := by
 subst hi
 have hx : d[P.length]! = x := arr_get h
 have h' : d.toList = (P ++ x :: M) ++ y :: Q := by rw [h]; simp
 have hy : d[j]! = y := by
  have := arr_get h'
  rw [hj]
  simpa [Nat.add_assoc, Nat.add_comm 1] using this
 unfold swp
 rw [hx, hy]
 simp only [Array.toList_setIfInBounds]
 rw [h, List.set_append_right _ _ (Nat.le_refl _)]
 simp only [Nat.sub_self, List.set_cons_zero]
 rw [List.set_append_right _ _ (by omega), show j - P.length = M.length + 1 by omega]
 simp only [List.set_cons_succ]
 rw [List.set_append_right _ _ (Nat.le_refl _)]
 simp
theorem swp_list' {d : Array α} {P M Q : List α} {x y : α} (h : d.toList = P ++ x :: (M ++ y :: Q)) {i j : Nat} (hi : i = P.length) (hj : j = P.length + 1 + M.length) : (swp d j i).toList = P ++ y :: (M ++ x :: Q) := by
 subst hi
 have hx : d[P.length]! = x := arr_get h
 have h' : d.toList = (P ++ x :: M) ++ y :: Q := by rw [h]; simp
 have hy : d[j]! = y := by
  have := arr_get h'
  rw [hj]
  simpa [Nat.add_assoc, Nat.add_comm 1] using this
 unfold swp
 rw [hx, hy]
 simp only [Array.toList_setIfInBounds]
 rw [h, List.set_append_right _ _ (by omega), show j - P.length = M.length + 1 by omega]
 simp only [List.set_cons_succ]
 rw [List.set_append_right _ _ (Nat.le_refl _), List.set_append_right _ _ (Nat.le_refl _)]
 simp
def swr (a b : Nat) : Nat → Nat → Array α → Array α
 | 0, _, d => d
 | k + 1, i, d => swr a b k (i + 1) (swp d (a + i) (b + i))
theorem swr_size (a b : Nat) : ∀ (k i : Nat) (d : Array α), (swr a b k i d).size = d.size
 | 0, _, _ => rfl
 | k + 1, i, d => by rw [swr, swr_size a b k]; simp [swp]
theorem swr_list (a b : Nat) : ∀ (k i : Nat) (d : Array α) (P X M Y Q : List α), d.toList = P ++ (X ++ (M ++ (Y ++ Q))) → X.length = k → Y.length = k → a + i = P.length → b + i = P.length + X.length + M.length →
  (swr a b k i d).toList = P ++ (Y ++ (M ++ (X ++ Q)))
 | 0, i, d, P, X, M, Y, Q, h, hx, hy, _, _ => by
  have := List.eq_nil_of_length_eq_zero hx; subst this
  have := List.eq_nil_of_length_eq_zero hy; subst this
  exact h
 | k + 1, i, d, P, x :: X, M, y :: Y, Q, h, hx, hy, ha, hb => by
  simp only [List.length_cons, Nat.add_right_cancel_iff] at hx hy hb
  have h0 : d.toList = P ++ x :: ((X ++ M) ++ y :: (Y ++ Q)) := by rw [h]; simp
  have h1 := swp_list h0 (i := a + i) (j := b + i) ha (by simp; omega)
  rw [swr]
  have := swr_list a b k (i + 1) (swp d (a + i) (b + i)) (P ++ [y]) X (M ++ [x]) Y Q (by rw [h1]; simp) hx hy (by simp; omega) (by simp; omega)
  rw [this]; simp
 | k + 1, i, d, P, [], M, Y, Q, h, hx, hy, _, _ => by simp at hx
 | k + 1, i, d, P, x :: X, M, [], Q, h, hx, hy, _, _ => by simp at hy
def rotA (d : Array α) (a m b : Nat) : Array α := (d.toList.take a ++ ((d.toList.take b).drop m ++ ((d.toList.take m).drop a ++ d.toList.drop b))).toArray
theorem y115q {d : Array α} {P X Y Q : List α} (h : d.toList = P ++ (X ++ (Y ++ Q))) {a m b : Nat} (ha : a = P.length) (hm : m = P.length + X.length) (hb : b = P.length + X.length + Y.length) : (rotA d a m b).toList = P ++ (Y ++ (X ++ Q)) := by
 subst ha; subst hm; subst hb
 simp only [rotA, h]
 have e1 : (P ++ (X ++ (Y ++ Q))).take P.length = P := by simp
 have e2 : (P ++ (X ++ (Y ++ Q))).take (P.length + X.length) = P ++ X := by
  rw [← List.append_assoc P X, List.take_append_of_le_length (by simp), List.take_of_length_le (by simp)]
 have e3 : (P ++ (X ++ (Y ++ Q))).take (P.length + X.length + Y.length) = (P ++ X) ++ Y := by
  rw [show P ++ (X ++ (Y ++ Q)) = ((P ++ X) ++ Y) ++ Q by simp, List.take_append_of_le_length (by simp; omega), List.take_of_length_le (by simp; omega)]
 have e4 : (P ++ (X ++ (Y ++ Q))).drop (P.length + X.length + Y.length) = Q := by
  rw [show P ++ (X ++ (Y ++ Q)) = ((P ++ X) ++ Y) ++ Q by simp, List.drop_append_of_le_length (by simp; omega), List.drop_of_length_le (by simp; omega)]
  simp
 rw [e1, e2, e3, e4]
 have e5 : ((P ++ X) ++ Y).drop (P.length + X.length) = Y := by
  rw [List.drop_append_of_le_length (by simp), List.drop_of_length_le (by simp)]; simp
 rw [e5]
 simp
theorem cut4 (l : List α) {a m b : Nat} (h1 : a ≤ m) (h2 : m ≤ b) (h3 : b ≤ l.length) : ∃ P X Y Q, l = P ++ (X ++ (Y ++ Q)) ∧ a = P.length ∧ m = P.length + X.length ∧ b = P.length + X.length + Y.length := by
 refine ⟨l.take a, (l.drop a).take (m - a), (l.drop m).take (b - m), l.drop b, ?_, by simp; omega, by simp; omega, by simp; omega⟩
 have e1 : (l.drop m).take (b - m) ++ l.drop b = l.drop m := by
  rw [show l.drop b = (l.drop m).drop (b - m) by rw [List.drop_drop]; congr 1; omega]
  exact List.take_append_drop _ _
 have e2 : (l.drop a).take (m - a) ++ l.drop m = l.drop a := by
  rw [show l.drop m = (l.drop a).drop (m - a) by rw [List.drop_drop]; congr 1; omega]
  exact List.take_append_drop _ _
 rw [e1, e2, List.take_append_drop]
theorem arr_eq {a b : Array α} (h : a.toList = b.toList) : a = b := Array.toList_inj.1 h
theorem rotA_size {d : Array α} {a m b : Nat} (h1 : a ≤ m) (h2 : m ≤ b) (h3 : b ≤ d.size) : (rotA d a m b).size = d.size := by
 obtain ⟨P, X, Y, Q, h, ha, hm, hb⟩ := cut4 d.toList h1 h2 (by simpa using h3)
 rw [← Array.length_toList, y115q h ha hm hb, ← Array.length_toList, h]
 simp; omega
theorem rot_more {d : Array α} {m i j : Nat} (hij : j < i) (hi : i ≤ m) (hj : m + j ≤ d.size) : rotA (swr (m - i) m j 0 d) (m - (i - j)) m (m + j) = rotA d (m - i) m (m + j) := by
 obtain ⟨P, X, Y, Q, h, ha, hm, hb⟩ := cut4 d.toList (a := m - i) (m := m) (b := m + j) (by omega) (by omega) (by simpa using hj)
 have hX : X = X.take j ++ X.drop j := (List.take_append_drop j X).symm
 have l1 : (X.take j).length = j := by simp; omega
 have l2 : (X.drop j).length = i - j := by simp; omega
 generalize X.take j = X1 at hX l1
 generalize X.drop j = X2 at hX l2
 subst hX
 simp only [List.length_append] at hm hb
 apply arr_eq
 rw [y115q h ha (by simp; omega) (by simp; omega)]
 have hs := swr_list (m - i) m j 0 d P X1 X2 Y Q (by rw [h]; simp) l1 (by omega) (by omega) (by omega)
 rw [y115q (P := P ++ Y) (X := X2) (Y := X1) (Q := Q) (by rw [hs]; simp) (by simp; omega) (by simp; omega) (by simp; omega)]
 simp
theorem rot_less {d : Array α} {m i j : Nat} (hij : i < j) (hi : i ≤ m) (hj : m + j ≤ d.size) : rotA (swr (m - i) (m + j - i) i 0 d) (m - i) m (m + (j - i)) = rotA d (m - i) m (m + j) := by
 obtain ⟨P, X, Y, Q, h, ha, hm, hb⟩ := cut4 d.toList (a := m - i) (m := m) (b := m + j) (by omega) (by omega) (by simpa using hj)
 have hY : Y = Y.take (j - i) ++ Y.drop (j - i) := (List.take_append_drop _ Y).symm
 have l1 : (Y.take (j - i)).length = j - i := by simp; omega
 have l2 : (Y.drop (j - i)).length = i := by simp; omega
 generalize Y.take (j - i) = Y1 at hY l1
 generalize Y.drop (j - i) = Y2 at hY l2
 subst hY
 simp only [List.length_append] at hb
 apply arr_eq
 rw [y115q h ha (by omega) (by simp; omega)]
 have hs := swr_list (m - i) (m + j - i) i 0 d P X Y1 Y2 Q (by rw [h]; simp) (by omega) l2 (by omega) (by omega)
 rw [y115q (P := P) (X := Y2) (Y := Y1) (Q := X ++ Q) (by rw [hs]) (by omega) (by omega) (by omega)]
 simp
theorem rot_end {d : Array α} {m i : Nat} (hi : i ≤ m) (hj : m + i ≤ d.size) : swr (m - i) m i 0 d = rotA d (m - i) m (m + i) := by
 obtain ⟨P, X, Y, Q, h, ha, hm, hb⟩ := cut4 d.toList (a := m - i) (m := m) (b := m + i) (by omega) (by omega) (by simpa using hj)
 apply arr_eq
 rw [y115q h ha hm hb]
 have hs := swr_list (m - i) m i 0 d P X [] Y Q (by rw [h]; simp) (by omega) (by omega) (by omega) (by simp; omega)
 rw [hs]; simp
def mrgA (lt : α → α → Bool) (d : Array α) (a m b : Nat) : Array α := (d.toList.take a ++ (mrg lt ((d.toList.take m).drop a) ((d.toList.take b).drop m) ++ d.toList.drop b)).toArray
theorem cuts {d : Array α} {P X Y Q : List α} (h : d.toList = P ++ (X ++ (Y ++ Q))) {a m b : Nat} (ha : a = P.length) (hm : m = P.length + X.length) (hb : b = P.length + X.length + Y.length) :
  d.toList.take a = P ∧ (d.toList.take m).drop a = X ∧ (d.toList.take b).drop m = Y ∧ d.toList.drop b = Q := by
 subst ha; subst hm; subst hb
 have e2 : (P ++ (X ++ (Y ++ Q))).take (P.length + X.length) = P ++ X := by
  rw [← List.append_assoc P X, List.take_append_of_le_length (by simp), List.take_of_length_le (by simp)]
 have e3 : (P ++ (X ++ (Y ++ Q))).take (P.length + X.length + Y.length) = (P ++ X) ++ Y := by
  rw [show P ++ (X ++ (Y ++ Q)) = ((P ++ X) ++ Y) ++ Q by simp, List.take_append_of_le_length (by simp; omega), List.take_of_length_le (by simp; omega)]
 have e4 : (P ++ (X ++ (Y ++ Q))).drop (P.length + X.length + Y.length) = Q := by
  rw [show P ++ (X ++ (Y ++ Q)) = ((P ++ X) ++ Y) ++ Q by simp, List.drop_append_of_le_length (by simp; omega), List.drop_of_length_le (by simp; omega)]
  simp
 rw [h, e2, e3, e4]
 refine ⟨by simp, by simp, ?_, rfl⟩
 rw [List.drop_append_of_le_length (by simp), List.drop_of_length_le (by simp)]; simp
theorem y116q (lt : α → α → Bool) {d : Array α} {P X Y Q : List α} (h : d.toList = P ++ (X ++ (Y ++ Q))) {a m b : Nat} (ha : a = P.length) (hm : m = P.length + X.length) (hb : b = P.length + X.length + Y.length) : (mrgA lt d a m b).toList = P ++ (mrg lt X Y ++ Q) := by
 obtain ⟨e1, e2, e3, e4⟩ := cuts h ha hm hb
 simp only [mrgA, e1, e2, e3, e4]
theorem y100q (lt : α → α → Bool) {d : Array α} {a m b : Nat} (h1 : a ≤ m) (h2 : m ≤ b) (h3 : b ≤ d.size) : (mrgA lt d a m b).size = d.size := by
 obtain ⟨P, X, Y, Q, h, ha, hm, hb⟩ := cut4 d.toList h1 h2 (by simpa using h3)
 rw [← Array.length_toList, y116q lt h ha hm hb, ← Array.length_toList, h]
 simp [y63q]; omega
end
end Go.Ev
end
section
namespace Go.Ev
open Go.Sort (swp)
section
variable {α : Type} [Inhabited α] {lt : α → α → Bool}
abbrev seg (d : Array α) (a m : Nat) : List α := (d.toList.take m).drop a
theorem seg_mem {d : Array α} {a m : Nat} (hm : m ≤ d.size) {x : α} : x ∈ seg d a m ↔ ∃ i, a ≤ i ∧ i < m ∧ d[i]! = x := by
 have hg : ∀ i (hi : i < d.size), d[i]! = d.toList[i]'(by simpa using hi) := fun i hi => by rw [getElem!_pos d i hi, Array.getElem_toList]
 constructor
 ·intro h
  obtain ⟨j, hj, e⟩ := List.mem_iff_getElem.1 h
  simp only [List.length_drop, List.length_take, Array.length_toList] at hj
  refine ⟨a + j, by omega, by omega, ?_⟩
  rw [hg _ (by omega), ← e]
  simp
 ·rintro ⟨i, h1, h2, rfl⟩
  rw [hg _ (by omega)]
  refine List.mem_iff_getElem.2 ⟨i - a, by simp; omega, ?_⟩
  simp [show a + (i - a) = i by omega]
theorem seg_srt {d : Array α} {a m : Nat} (hm : m ≤ d.size) : Srt lt (seg d a m) ↔ ∀ i j, a ≤ i → i < j → j < m → lt d[j]! d[i]! = false := by
 have hg : ∀ i (hi : i < d.size), d[i]! = d.toList[i]'(by simpa using hi) := fun i hi => by rw [getElem!_pos d i hi, Array.getElem_toList]
 unfold Srt
 rw [List.pairwise_iff_getElem]
 constructor
 ·intro h i j h1 h2 h3
  have := h (i - a) (j - a) (by simp; omega) (by simp; omega) (by omega)
  simp only [List.getElem_drop, List.getElem_take] at this
  rw [hg i (by omega), hg j (by omega)]
  simpa [show a + (i - a) = i by omega, show a + (j - a) = j by omega] using this
 ·intro h i j hi hj hij
  simp only [List.length_drop, List.length_take, Array.length_toList] at hi hj
  have := h (a + i) (a + j) (by omega) (by omega) (by omega)
  rw [hg _ (by omega), hg _ (by omega)] at this
  simpa using this
def bubU : Nat → Nat → Array α → Array α
 | 0, _, d => d
 | c + 1, k, d => bubU c (k + 1) (swp d k (k + 1))
def bubD : Nat → Nat → Array α → Array α
 | 0, _, d => d
 | c + 1, k, d => bubD c (k - 1) (swp d k (k - 1))
theorem bubU_size : ∀ (c k : Nat) (d : Array α), (bubU c k d).size = d.size
 | 0, _, _ => rfl
 | c + 1, k, d => by rw [bubU, bubU_size c]; simp [swp]
theorem bubD_size : ∀ (c k : Nat) (d : Array α), (bubD c k d).size = d.size
 | 0, _, _ => rfl
 | c + 1, k, d => by rw [bubD, bubD_size c]; simp [swp]
theorem bubU_list : ∀ (c k : Nat) (d : Array α) (P Y R : List α) (x : α), d.toList = P ++ x :: (Y ++ R) → k = P.length → Y.length = c → (bubU c k d).toList = P ++ (Y ++ x :: R)
 | 0, k, d, P, Y, R, x, h, hk, hy => by
  have := List.eq_nil_of_length_eq_zero hy; subst this
  exact h
 | c + 1, k, d, P, y :: Y, R, x, h, hk, hy => by
  have h1 := swp_list (M := []) (by simpa using h) hk (j := k + 1) (by simp; omega)
  rw [bubU, bubU_list c (k + 1) _ (P ++ [y]) Y R x (by rw [h1]; simp) (by simp; omega) (by simpa using hy)]
  simp
 | c + 1, k, d, P, [], R, x, h, hk, hy => by simp at hy
theorem bubD_list : ∀ (c k : Nat) (d : Array α) (P X R : List α) (y : α), d.toList = P ++ (X ++ y :: R) → k = P.length + X.length → X.length = c → (bubD c k d).toList = P ++ y :: (X ++ R)
 | 0, k, d, P, X, R, y, h, hk, hx => by
  have := List.eq_nil_of_length_eq_zero hx; subst this
  exact h
 | c + 1, k, d, P, X, R, y, h, hk, hx => by
  obtain ⟨X', x, rfl⟩ : ∃ X' x, X = X' ++ [x] := ⟨X.dropLast, X.getLast (by intro e; simp [e] at hx), (List.dropLast_concat_getLast _).symm⟩
  simp only [List.length_append, List.length_cons, List.length_nil, Nat.zero_add] at hk hx
  have h0 : d.toList = (P ++ X') ++ x :: ([] ++ y :: R) := by rw [h]; simp
  have h1 := swp_list' h0 (i := k - 1) (j := k) (by simp; omega) (by simp; omega)
  rw [bubD, bubD_list c (k - 1) _ P X' (x :: R) y (by rw [h1]; simp) (by omega) (by omega)]
  simp
theorem sym_one {d : Array α} (h : Weak lt) {a b i : Nat} (h1 : a + 1 ≤ i) (h2 : i ≤ b) (h3 : b ≤ d.size) (hl : ∀ k, a + 1 ≤ k → k < i → lt d[k]! d[a]! = true) (hr : ∀ k, i ≤ k → k < b → lt d[k]! d[a]! = false) : bubU (i - 1 - a) a d = mrgA lt d a (a + 1) b := by
 obtain ⟨P, X, Y, Q, hd, ha, hm, hb⟩ := cut4 d.toList (a := a) (m := a + 1) (b := b) (by omega) (by omega) (by simpa using h3)
 obtain ⟨x, rfl⟩ : ∃ x, X = [x] := by
  match X with
  | [x] => exact ⟨x, rfl⟩
  | [] => simp at hm; omega
  | _ :: _ :: _ => simp at hm; omega
 simp only [List.length_cons, List.length_nil] at hm hb
 have hc := cuts hd ha (m := a + 1) (b := b) (by simp; omega) (by simp; omega)
 have hxa : d[a]! = x := by rw [ha]; exact arr_get (by rw [hd]; rfl)
 have hY : Y = Y.take (i - (a + 1)) ++ Y.drop (i - (a + 1)) := (List.take_append_drop _ Y).symm
 have e1 : ∀ y ∈ Y.take (i - (a + 1)), lt y x = true := fun y hy => by
  have hs : Y.take (i - (a + 1)) = seg d (a + 1) i := by
   rw [← hc.2.2.1]
   show ((d.toList.take b).drop (a + 1)).take (i - (a + 1)) = _
   rw [← List.drop_take, List.take_take, Nat.min_eq_left h2]
  rw [hs] at hy
  obtain ⟨k, g1, g2, rfl⟩ := (seg_mem (by omega)).1 hy
  rw [← hxa]; exact hl k g1 g2
 have e2 : ∀ y ∈ Y.drop (i - (a + 1)), lt y x = false := fun y hy => by
  have hs : Y.drop (i - (a + 1)) = seg d i b := by
   rw [← hc.2.2.1, List.drop_drop]
   congr 1; omega
  rw [hs] at hy
  obtain ⟨k, g1, g2, rfl⟩ := (seg_mem h3).1 hy
  rw [← hxa]; exact hr k g1 g2
 have l1 : (Y.take (i - (a + 1))).length = i - (a + 1) := by simp; omega
 generalize Y.take (i - (a + 1)) = Y1 at hY e1 l1
 generalize Y.drop (i - (a + 1)) = Y2 at hY e2
 subst hY
 apply arr_eq
 rw [y116q lt hd ha (by simp; omega) (by simp at hb ⊢; omega), one_mrg h x Y1 Y2 e1 e2]
 rw [bubU_list (i - 1 - a) a d P Y1 (Y2 ++ Q) x (by rw [hd]; simp) ha (by omega)]
 simp
theorem sym_last {d : Array α} (h : Weak lt) {a m i : Nat} (h1 : a ≤ i) (h2 : i ≤ m) (h3 : m + 1 ≤ d.size) (hl : ∀ k, a ≤ k → k < i → lt d[m]! d[k]! = false) (hr : ∀ k, i ≤ k → k < m → lt d[m]! d[k]! = true) : bubD (m - i) m d = mrgA lt d a m (m + 1) := by
 obtain ⟨P, X, Y, Q, hd, ha, hm, hb⟩ := cut4 d.toList (a := a) (m := m) (b := m + 1) (by omega) (by omega) (by simpa using h3)
 obtain ⟨y, rfl⟩ : ∃ y, Y = [y] := by
  match Y with
  | [y] => exact ⟨y, rfl⟩
  | [] => simp at hb; omega
  | _ :: _ :: _ => simp at hb; omega
 have hc := cuts hd ha hm hb
 have hym : d[m]! = y := by
  have : d.toList = (P ++ X) ++ y :: Q := by rw [hd]; simp
  have := arr_get this
  rwa [show (P ++ X).length = m by simp; omega] at this
 have hX : X = X.take (i - a) ++ X.drop (i - a) := (List.take_append_drop _ X).symm
 have e1 : ∀ x ∈ X.take (i - a), lt y x = false := fun x hx => by
  have hs : X.take (i - a) = seg d a i := by
   rw [← hc.2.1, ← List.drop_take, List.take_take, Nat.min_eq_left h2]
  rw [hs] at hx
  obtain ⟨k, g1, g2, rfl⟩ := (seg_mem (by omega)).1 hx
  rw [← hym]; exact hl k g1 g2
 have e2 : ∀ x ∈ X.drop (i - a), lt y x = true := fun x hx => by
  have hs : X.drop (i - a) = seg d i m := by
   rw [← hc.2.1, List.drop_drop]
   congr 1; omega
  rw [hs] at hx
  obtain ⟨k, g1, g2, rfl⟩ := (seg_mem (by omega)).1 hx
  rw [← hym]; exact hr k g1 g2
 have l1 : (X.drop (i - a)).length = m - i := by simp; omega
 generalize X.take (i - a) = X1 at hX e1
 generalize X.drop (i - a) = X2 at hX e2 l1
 subst hX
 apply arr_eq
 simp only [List.length_append] at hm
 rw [y116q lt hd ha (by simp; omega) hb, mrg_one h y X1 X2 e1 e2]
 rw [bubD_list (m - i) m d (P ++ X1) X2 Q y (by rw [hd]; simp) (by simp; omega) l1]
 simp
theorem sym_halves {d : Array α} (h : Weak lt) {a m b s e mid : Nat} (h1 : a ≤ s) (h2 : s ≤ m) (h3 : m ≤ e) (h4 : e ≤ b) (h5 : b ≤ d.size) (hn : s + e = mid + m)
  (hl : ∀ i j, a ≤ i → i < s → e ≤ j → j < b → lt d[j]! d[i]! = false) (hr : ∀ i j, s ≤ i → i < m → m ≤ j → j < e → lt d[j]! d[i]! = true) :
  mrgA lt (mrgA lt (rotA d s m e) a s mid) mid e b = mrgA lt d a m b ∧ (Srt lt (seg d a m) → Srt lt (seg d m b) →
   Srt lt (seg (rotA d s m e) a s) ∧ Srt lt (seg (rotA d s m e) s mid) ∧ Srt lt (seg (mrgA lt (rotA d s m e) a s mid) mid e) ∧ Srt lt (seg (mrgA lt (rotA d s m e) a s mid) e b)) := by
 obtain ⟨P, X, Y, Q, hd, ha, hm, hb⟩ := cut4 d.toList (a := a) (m := m) (b := b) (by omega) (by omega) (by simpa using h5)
 have hc := cuts hd ha hm hb
 have hX : X = X.take (s - a) ++ X.drop (s - a) := (List.take_append_drop _ X).symm
 have hY : Y = Y.take (e - m) ++ Y.drop (e - m) := (List.take_append_drop _ Y).symm
 have s1 : X.take (s - a) = seg d a s := by rw [← hc.2.1, ← List.drop_take, List.take_take, Nat.min_eq_left h2]
 have s2 : X.drop (s - a) = seg d s m := by
  rw [← hc.2.1, List.drop_drop]; congr 1; omega
 have s3 : Y.take (e - m) = seg d m e := by rw [← hc.2.2.1, ← List.drop_take, List.take_take, Nat.min_eq_left h4]
 have s4 : Y.drop (e - m) = seg d e b := by
  rw [← hc.2.2.1, List.drop_drop]; congr 1; omega
 have l1 : (X.take (s - a)).length = s - a := by simp; omega
 have l2 : (X.drop (s - a)).length = m - s := by simp; omega
 have l3 : (Y.take (e - m)).length = e - m := by simp; omega
 have l4 : (Y.drop (e - m)).length = b - e := by simp; omega
 have q1 : ∀ x ∈ X.take (s - a), ∀ y ∈ Y.drop (e - m), lt y x = false := fun x hx y hy => by
  rw [s1] at hx; rw [s4] at hy
  obtain ⟨i, g1, g2, rfl⟩ := (seg_mem (by omega)).1 hx
  obtain ⟨j, g3, g4, rfl⟩ := (seg_mem h5).1 hy
  exact hl i j g1 g2 g3 g4
 have q2 : ∀ y ∈ Y.take (e - m), ∀ x ∈ X.drop (s - a), lt y x = true := fun y hy x hx => by
  rw [s2] at hx; rw [s3] at hy
  obtain ⟨i, g1, g2, rfl⟩ := (seg_mem (by omega)).1 hx
  obtain ⟨j, g3, g4, rfl⟩ := (seg_mem (by omega)).1 hy
  exact hr i j g1 g2 g3 g4
 have eX : seg d a m = X := hc.2.1
 have eY : seg d m b = Y := hc.2.2.1
 rw [eX, eY]
 clear s1 s2 s3 s4 hc eX eY
 generalize X.take (s - a) = A1 at *
 generalize X.drop (s - a) = A2 at *
 generalize Y.take (e - m) = B1 at *
 generalize Y.drop (e - m) = B2 at *
 subst hX; subst hY
 simp only [List.length_append] at hm hb
 have hd' : d.toList = (P ++ A1) ++ (A2 ++ (B1 ++ (B2 ++ Q))) := by rw [hd]; simp
 have r0 := y115q hd' (a := s) (m := m) (b := e) (by simp; omega) (by simp; omega) (by simp; omega)
 have r1 : (rotA d s m e).toList = P ++ (A1 ++ (B1 ++ (A2 ++ (B2 ++ Q)))) := by rw [r0]; simp
 have r2 := y116q lt r1 (a := a) (m := s) (b := mid) ha (by omega) (by omega)
 have r3 : (mrgA lt (rotA d s m e) a s mid).toList = (P ++ mrg lt A1 B1) ++ (A2 ++ (B2 ++ Q)) := by rw [r2]; simp
 have r4 := y116q lt r3 (a := mid) (m := e) (b := b) (by simp [y63q]; omega) (by simp [y63q]; omega) (by simp [y63q]; omega)
 refine ⟨?_, fun hA hB => ?_⟩
 ·apply arr_eq
  rw [r4, y116q lt hd ha (by simp; omega) (by simp; omega), mrg_split h A1 B1 A2 B2 q1 q2]
  simp
 ·have c1 := cuts r1 (a := a) (m := s) (b := mid) ha (by omega) (by omega)
  have c2 := cuts r3 (a := mid) (m := e) (b := b) (by simp [y63q]; omega) (by simp [y63q]; omega) (by simp [y63q]; omega)
  have hA' := List.pairwise_append.1 hA
  have hB' := List.pairwise_append.1 hB
  exact ⟨by rw [show seg (rotA d s m e) a s = A1 from c1.2.1]; exact hA'.1, by rw [show seg (rotA d s m e) s mid = B1 from c1.2.2.1]; exact hB'.1,
   by rw [show seg (mrgA lt (rotA d s m e) a s mid) mid e = A2 from c2.2.1]; exact hA'.2.1, by rw [show seg (mrgA lt (rotA d s m e) a s mid) e b = B2 from c2.2.2.1]; exact hB'.2.1⟩
end
end Go.Ev
end
section
namespace Go.Proofs
open Go.Shelf Go.RowKit Go.Lib Go.Sort Go.Ev
variable {P : Program} {ρ : Ren} {α : Type} [Inhabited α]
set_option maxHeartbeats 2000000 in
set_option maxRecDepth 100000 in
theorem Sb.swapRange (L : LaysGt.n49 P ρ) (enc : α → List Value) (k : Nat) (hk : ∀ x, (enc x).length = k) (g : Nat) (lb : Array Value) (sf : Nat) (sb : Array Value) (blk off a b n : Nat) (d : Array α) (w : World)
  (hswap : SwapSwapsK P sf sb enc k blk off d.size) (hH : HoldsK enc k w blk off d) (hblk : blk < w.heap.size) (ha : a + n ≤ d.size) (hb : b + n ≤ d.size) (hsz : d.size < 4611686018427387904) :
  Calls P (ρ.f 49) #[.agg (dat g lb sf sb), .int .i64 a, .int .i64 b, .int .i64 n] w fun e w' => e = .returned (.tuple #[]) ∧ SWB enc k w blk off (swr a b n 0 d) w' := by
 have mixed := L.mixed; have t0 := L.t0; have a0 := L.a0; have z0 := L.z0; have v0 := L.v0; have t3 := L.t3; have a3 := L.a3; have z3 := L.z3; have v3 := L.v3; have t4 := L.t4; have a4 := L.a4; have z4 := L.z4; have v4 := L.v4; have t26 := L.t26; have a26 := L.a26; have z26 := L.z26; have v26 := L.v26; have t38 := L.t38; have a38 := L.a38; have z38 := L.z38; have v38 := L.v38; have t42 := L.t42; have a42 := L.a42; have z42 := L.z42; have v42 := L.v42
 have u42 := run_underlying L.t42
 have hW1 : SWB enc k w blk off d (w.alloc (.cells (dat g lb sf sb) (ρ.t 42))) := (SWB.start hH).alloc _
 have hH1 : HoldsK enc k (w.alloc (.cells (dat g lb sf sb) (ρ.t 42))) blk off d := hW1.holds hblk hH rfl
 have hblk1 : blk < (w.alloc (.cells (dat g lb sf sb) (ρ.t 42))).heap.size := hW1.lt hblk
 go_enter L.f49, BodyGt.n49_ntmps ρ
 go_wp2
 go_loopw [8] (fun vi wr => ∃ (i : Nat) (dk : Array α), vi = .int .i64 i ∧ i ≤ n ∧ dk.size = d.size ∧ SWB enc k (w.alloc (.cells (dat g lb sf sb) (ρ.t 42))) blk off dk wr ∧ swr a b (n - i) i dk = swr a b n 0 d) (fun vi _ => n - (intOf vi).toNat)
 case atStart => exact ⟨0, d, rfl, Nat.zero_le _, rfl, SWB.start hH1, rfl⟩
 case round =>
  obtain ⟨i, dk, rfl, hin, hsk, hS, hO⟩ := hrel
  have c0 := y14q hblk hS 0 (.func (.func g) #[] lb) (by simp)
  have c1 := y14q hblk hS 1 (.func (.func sf) #[] sb) (by simp)
  have hHw : HoldsK enc k wr blk off dk := hS.holds hblk1 hH1 hsk
  have HS : Aside _ := hS
  have HO : Aside _ := hO
  have HW1 : Aside _ := hW1
  clear hS hO hH hH1 hW1
  by_cases hi : i < n
  ·have hs := hswap wr dk hHw hsk (a + i) (b + i) (by omega) (by omega)
   rw [show ((a + i : Nat) : Int) = (a : Int) + i by omega, show ((b + i : Nat) : Int) = (b : Int) + i by omega] at hs
   have hz : (i : Int) < n := by omega
   go_wp2
   exact ⟨⟨i + 1, swp dk (a + i) (b + i), by go_num, by omega, by rw [swp_size]; exact hsk, SWB.swap HS.out hk hblk1 (a + i) (b + i) (by omega) (by omega), by rw [← HO.out, show n - i = (n - (i + 1)) + 1 by omega, swr]⟩, by simp [intOf]; omega⟩
  ·have hz : ¬ (i : Int) < n := by omega
   go_wp2
   go_end0
   refine ⟨rfl, ?_⟩
   have hO := HO.out
   rw [show n - i = 0 by omega, swr] at hO
   rw [← hO]
   exact y45q hblk HW1.out HS.out hsk
end Go.Proofs
end
section
namespace Go.Proofs
open Go.Shelf Go.RowKit Go.Lib Go.Sort Go.Ev
variable {P : Program} {ρ : Ren} {α : Type} [Inhabited α]
set_option maxHeartbeats 4000000 in
set_option maxRecDepth 100000 in
theorem Sb.rotate (L : LaysGt.n42 P ρ) (enc : α → List Value) (k : Nat) (hk : ∀ x, (enc x).length = k) (g : Nat) (lb : Array Value) (sf : Nat) (sb : Array Value) (blk off a m b : Nat) (d : Array α) (w : World)
  (hswap : SwapSwapsK P sf sb enc k blk off d.size) (hH : HoldsK enc k w blk off d) (hblk : blk < w.heap.size) (ha : a < m) (hm : m < b) (hb : b ≤ d.size) (hsz : d.size < 4611686018427387904) :
  Calls P (ρ.f 42) #[.agg (dat g lb sf sb), .int .i64 a, .int .i64 m, .int .i64 b] w fun e w' => e = .returned (.tuple #[]) ∧ SWB enc k w blk off (rotA d a m b) w' := by
 have mixed := L.mixed; have t0 := L.t0; have a0 := L.a0; have z0 := L.z0; have v0 := L.v0; have t3 := L.t3; have a3 := L.a3; have z3 := L.z3; have v3 := L.v3; have t4 := L.t4; have a4 := L.a4; have z4 := L.z4; have v4 := L.v4; have t26 := L.t26; have a26 := L.a26; have z26 := L.z26; have v26 := L.v26; have t38 := L.t38; have a38 := L.a38; have z38 := L.z38; have v38 := L.v38; have t42 := L.t42; have a42 := L.a42; have z42 := L.z42; have v42 := L.v42
 have u42 := run_underlying L.t42
 have e49 : ∀ args w, (callFunc (ρ.f 49) args).run P w = .ok (.enter (ρ.f 49) args) w := enters_of L.f49 (by kernel_rfl) rfl
 have LS : LaysGt.n49 P ρ := { L with }
 have hW1 : SWB enc k w blk off d (w.alloc (.cells (dat g lb sf sb) (ρ.t 42))) := (SWB.start hH).alloc _
 have hH1 : HoldsK enc k (w.alloc (.cells (dat g lb sf sb) (ρ.t 42))) blk off d := hW1.holds hblk hH rfl
 have hblk1 : blk < (w.alloc (.cells (dat g lb sf sb) (ρ.t 42))).heap.size := hW1.lt hblk
 go_enter L.f42, BodyGt.n42_ntmps ρ
 go_wp2
 go_loopw [8, 9] (fun vi vj wr => ∃ (i j : Nat) (dk : Array α), vi = .int .i64 i ∧ vj = .int .i64 j ∧ 0 < i ∧ 0 < j ∧ i ≤ m ∧ m + j ≤ d.size ∧ dk.size = d.size ∧ SWB enc k (w.alloc (.cells (dat g lb sf sb) (ρ.t 42))) blk off dk wr ∧ rotA dk (m - i) m (m + j) = rotA d a m b) (fun vi vj _ => (intOf vi).toNat + (intOf vj).toNat)
 case atStart => exact ⟨m - a, b - m, d, by go_num, by go_num, by omega, by omega, by omega, by omega, rfl, SWB.start hH1, by rw [show m - (m - a) = a by omega, show m + (b - m) = b by omega]⟩
 case round =>
  obtain ⟨i, j, dk, rfl, rfl, hi0, hj0, him, hjb, hsk, hS, hO⟩ := hrel
  have c0 := y14q hblk hS 0 (.func (.func g) #[] lb) (by simp)
  have c1 := y14q hblk hS 1 (.func (.func sf) #[] sb) (by simp)
  have hHw : HoldsK enc k wr blk off dk := hS.holds hblk1 hH1 hsk
  have hbw : blk < wr.heap.size := hS.lt hblk1
  have hcall := fun (x y n : Nat) (h1 : x + n ≤ d.size) (h2 : y + n ≤ d.size) => Sb.swapRange LS enc k hk g lb sf sb blk off x y n dk wr (by rw [hsk]; exact hswap) hHw hbw (by omega) (by omega) (by omega)
  have HS : Aside _ := hS
  have HO : Aside _ := hO
  have HW1 : Aside _ := hW1
  have HC : Aside _ := hcall
  clear hS hO hH hH1 hW1 hcall hHw hswap
  by_cases hij : i = j
  ·subst hij
   have hz : ¬ ((i : Int) ≠ i) := by omega
   have hc := HC.out (m - i) m i (by omega) (by omega)
   rw [show ((m - i : Nat) : Int) = (m : Int) - i by omega] at hc
   go_wp2_with (go_at_fn (ρ.f 49); refine hc.mono ?_; rintro e w1 ⟨rfl, hS1⟩)
   go_end0
   refine ⟨rfl, ?_⟩
   rw [← HO.out, ← rot_end him (by omega)]
   exact y45q hblk HW1.out (y45q hblk1 HS.out hS1 (by rw [swr_size])) (by rw [swr_size]; exact hsk)
  ·have hz : ((i : Int) ≠ j) := by omega
   by_cases hgt : j < i
   ·have hz2 : ((i : Int) > j) := by omega
    have hc := HC.out (m - i) m j (by omega) (by omega)
    rw [show ((m - i : Nat) : Int) = (m : Int) - i by omega] at hc
    go_wp2_with (go_at_fn (ρ.f 49); refine hc.mono ?_; rintro e w1 ⟨rfl, hS1⟩)
    go_roundw
    case rel => exact ⟨i - j, j, swr (m - i) m j 0 dk, by go_num, rfl, by omega, hj0, by omega, hjb, by rw [swr_size]; exact hsk, y45q hblk1 HS.out hS1 (by rw [swr_size]), by rw [← HO.out, rot_more hgt him (by omega)]⟩
    case measure => simp [intOf]; omega
   ·have hz2 : ¬ ((i : Int) > j) := by omega
    have hc := HC.out (m - i) (m + j - i) i (by omega) (by omega)
    rw [show ((m - i : Nat) : Int) = (m : Int) - i by omega, show ((m + j - i : Nat) : Int) = (m : Int) + j - i by omega] at hc
    go_wp2_with (go_at_fn (ρ.f 49); refine hc.mono ?_; rintro e w1 ⟨rfl, hS1⟩)
    go_roundw
    case rel => exact ⟨i, j - i, swr (m - i) (m + j - i) i 0 dk, rfl, by go_num, hi0, by omega, him, by omega, by rw [swr_size]; exact hsk, y45q hblk1 HS.out hS1 (by rw [swr_size]), by rw [← HO.out, rot_less (by omega) him (by omega)]⟩
    case measure => simp [intOf]; omega
end Go.Proofs
end
section
namespace Go.Proofs
open Go.Shelf Go.RowKit Go.Lib Go.Sort Go.Ev
variable {P : Program} {ρ : Ren} {α : Type} [Inhabited α]
set_option maxHeartbeats 4000000 in
set_option maxRecDepth 100000 in
theorem Sb.symMerge_one (L : LaysGt.n30 P ρ) (enc : α → List Value) (k : Nat) (hk : ∀ x, (enc x).length = k) (lt : α → α → Bool) (hlt : Weak lt) (g : Nat) (lb : Array Value) (sf : Nat) (sb : Array Value) (blk off a m b : Nat) (hm : m = a + 1) (d : Array α) (w : World)
  (eg : ∀ args w, (callFunc g args).run P w = .ok (.enter g args) w) (hless : LessB P g lb enc k lt blk off d.size w) (hswap : SwapSwapsK P sf sb enc k blk off d.size)
  (hH : HoldsK enc k w blk off d) (hblk : blk < w.heap.size) (hab : m < b) (hb : b ≤ d.size) (hsz : d.size < 4611686018427387904) (hs2 : Srt lt (seg d m b)) :
  Calls P (ρ.f 30) #[.agg (dat g lb sf sb), .int .i64 a, .int .i64 m, .int .i64 b] w fun e w' => e = .returned (.tuple #[]) ∧ SWB enc k w blk off (mrgA lt d a m b) w' := by
 have mixed := L.mixed; have t0 := L.t0; have a0 := L.a0; have z0 := L.z0; have v0 := L.v0; have t3 := L.t3; have a3 := L.a3; have z3 := L.z3; have v3 := L.v3; have t4 := L.t4; have a4 := L.a4; have z4 := L.z4; have v4 := L.v4; have t26 := L.t26; have a26 := L.a26; have z26 := L.z26; have v26 := L.v26; have t38 := L.t38; have a38 := L.a38; have z38 := L.z38; have v38 := L.v38; have t42 := L.t42; have a42 := L.a42; have z42 := L.z42; have v42 := L.v42; have t47 := L.t47; have a47 := L.a47; have z47 := L.z47; have v47 := L.v47
 have u42 := run_underlying L.t42
 have hW1 : SWB enc k w blk off d (w.alloc (.cells (dat g lb sf sb) (ρ.t 42))) := (SWB.start hH).alloc _
 have hH1 : HoldsK enc k (w.alloc (.cells (dat g lb sf sb) (ρ.t 42))) blk off d := hW1.holds hblk hH rfl
 have hblk1 : blk < (w.alloc (.cells (dat g lb sf sb) (ρ.t 42))).heap.size := hW1.lt hblk
 have hL1 : LessB P g lb enc k lt blk off d.size (w.alloc (.cells (dat g lb sf sb) (ρ.t 42))) := hW1.lessReads hless hblk rfl
 have hsrt := (seg_srt (lt := lt) hb).1 hs2
 have hz0 : (m : Int) - (a : Int) = 1 := by omega
 have HM : Aside _ := hm
 have ham : a < m := by omega
 have ham1 : a ≤ m - 1 := by omega
 clear hm
 go_enter L.f30, BodyGt.n30_ntmps ρ
 go_wp2
 go_loopw [8, 9] (fun vi vj wr => ∃ (i j : Nat), vi = .int .i64 i ∧ vj = .int .i64 j ∧ m ≤ i ∧ i ≤ j ∧ j ≤ b ∧ SWB enc k (w.alloc (.cells (dat g lb sf sb) (ρ.t 42))) blk off d wr ∧ (∀ q, m ≤ q → q < i → lt d[q]! d[a]! = true) ∧ (∀ q, j ≤ q → q < b → lt d[q]! d[a]! = false)) (fun vi vj _ => (intOf vj).toNat - (intOf vi).toNat)
 case atStart => exact ⟨m, b, rfl, rfl, by omega, by omega, by omega, SWB.start hH1, fun q h1 h2 => by omega, fun q h1 h2 => by omega⟩
 case round =>
  obtain ⟨i, j, rfl, rfl, hi0, hij, hjb, hS, hl, hr⟩ := hrel
  have c0 := y14q hblk hS 0 (.func (.func g) #[] lb) (by simp)
  have c1 := y14q hblk hS 1 (.func (.func sf) #[] sb) (by simp)
  have HS : Aside _ := hS
  have HL : Aside _ := hl
  have HR : Aside _ := hr
  have HT : Aside _ := hsrt
  have HW1 : Aside _ := hW1
  have HH1 : Aside _ := hH1
  have HSW : Aside _ := hswap
  have hls := fun (x y : Nat) (h1 : x < d.size) (h2 : y < d.size) => hS.less hL1 rfl x y h1 h2
  have HLS : Aside _ := hls
  clear hS hl hr hsrt hs2 hH hH1 hW1 hless hL1 hswap hls
  by_cases hz : i < j
  ·have hz' : (i : Int) < j := by omega
   have hl1 := HLS.out ((i + j) / 2) a (by omega) (by omega)
   rw [show (((i + j) / 2 : Nat) : Int) = ((i : Int) + j) / 2 by omega] at hl1
   cases hv : lt d[(i + j) / 2]! d[a]! with
   | true =>
    rw [hv] at hl1
    go_wp2_with (go_at_fn g; refine hl1.mono ?_; rintro e w' ⟨rfl, hB⟩)
    go_roundw
    case rel => exact ⟨(i + j) / 2 + 1, j, by go_num, rfl, by omega, by omega, hjb, SWB.below HS.out hB, fun p h1 h2 => (Nat.lt_or_ge p ((i + j) / 2)).elim (fun h => hlt.right (HT.out p ((i + j) / 2) h1 h (by omega)) hv) (fun h => by rw [show p = (i + j) / 2 by omega]; exact hv), HR.out⟩
    case measure => simp [intOf]; omega
   | false =>
    rw [hv] at hl1
    go_wp2_with (go_at_fn g; refine hl1.mono ?_; rintro e w' ⟨rfl, hB⟩)
    go_roundw
    case rel => exact ⟨i, (i + j) / 2, rfl, by go_num, hi0, by omega, by omega, SWB.below HS.out hB, HL.out, fun p h1 h2 => (Nat.eq_or_lt_of_le h1).elim (fun h => by rw [← h]; exact hv) (fun h => hlt.neg _ _ _ (HT.out ((i + j) / 2) p (by omega) h h2) hv)⟩
    case measure => simp [intOf]; omega
  ·obtain rfl : i = j := by omega
   have hz' : ¬ ((i : Int) < i) := by omega
   go_wp2
   go_loopw [11] (fun vi wr => ∃ (p : Nat) (dk : Array α), vi = .int .i64 p ∧ a ≤ p ∧ p ≤ i - 1 ∧ dk.size = d.size ∧ SWB enc k (w.alloc (.cells (dat g lb sf sb) (ρ.t 42))) blk off dk wr ∧ bubU (i - 1 - p) p dk = bubU (i - 1 - a) a d) (fun vi _ => i - (intOf vi).toNat)
   case atStart => exact ⟨a, d, rfl, Nat.le_refl _, by omega, rfl, HS.out, rfl⟩
   case round =>
    obtain ⟨p, dk, rfl, hap, hpi, hsk, hS, hO⟩ := hrel
    have c0 := y14q hblk hS 0 (.func (.func g) #[] lb) (by simp)
    have c1 := y14q hblk hS 1 (.func (.func sf) #[] sb) (by simp)
    have hHw := hS.holds hblk1 HH1.out hsk
    have HS2 : Aside _ := hS
    have HO : Aside _ := hO
    have HHw : Aside _ := hHw
    clear hS hO hHw
    by_cases hq : p < i - 1
    ·have hq' : (p : Int) < (i : Int) - 1 := by omega
     have hs := HSW.out _ dk HHw.out hsk p (p + 1) (by omega) (by omega)
     rw [show ((p + 1 : Nat) : Int) = (p : Int) + 1 by omega] at hs
     go_wp2
     exact ⟨⟨p + 1, swp dk p (p + 1), by go_num, by omega, by omega, by rw [swp_size]; exact hsk, SWB.swap HS2.out hk hblk1 p (p + 1) (by omega) (by omega), by rw [← HO.out, show i - 1 - p = (i - 1 - (p + 1)) + 1 by omega, bubU]⟩, by simp [intOf]; omega⟩
    ·have hq' : ¬ ((p : Int) < (i : Int) - 1) := by omega
     go_wp2
     (try simp only [Exit.inBlock, Exit.then]); refine bodyPost_ret (results_none rfl _ _ _) rfl ?_
     refine ⟨rfl, ?_⟩
     have hO := HO.out
     rw [show i - 1 - p = 0 by omega, bubU] at hO
     have hL := HL.out
     have hm := HM.out
     subst hm
     rw [sym_one hlt hi0 hjb hb hL HR.out] at hO
     rw [← hO]
     exact y45q hblk HW1.out HS2.out hsk
end Go.Proofs
end
section
namespace Go.Proofs
open Go.Shelf Go.RowKit Go.Lib Go.Sort Go.Ev
variable {P : Program} {ρ : Ren} {α : Type} [Inhabited α]
set_option maxHeartbeats 4000000 in
set_option maxRecDepth 100000 in
theorem Sb.symMerge_last (L : LaysGt.n30 P ρ) (enc : α → List Value) (k : Nat) (hk : ∀ x, (enc x).length = k) (lt : α → α → Bool) (hlt : Weak lt) (g : Nat) (lb : Array Value) (sf : Nat) (sb : Array Value) (blk off a m b : Nat) (hm : b = m + 1) (d : Array α) (w : World)
  (eg : ∀ args w, (callFunc g args).run P w = .ok (.enter g args) w) (hless : LessB P g lb enc k lt blk off d.size w) (hswap : SwapSwapsK P sf sb enc k blk off d.size)
  (hH : HoldsK enc k w blk off d) (hblk : blk < w.heap.size) (hab : a < m) (hne : ¬ m - a = 1) (hb : b ≤ d.size) (hsz : d.size < 4611686018427387904) (hs2 : Srt lt (seg d a m)) :
  Calls P (ρ.f 30) #[.agg (dat g lb sf sb), .int .i64 a, .int .i64 m, .int .i64 b] w fun e w' => e = .returned (.tuple #[]) ∧ SWB enc k w blk off (mrgA lt d a m b) w' := by
 have mixed := L.mixed; have t0 := L.t0; have a0 := L.a0; have z0 := L.z0; have v0 := L.v0; have t3 := L.t3; have a3 := L.a3; have z3 := L.z3; have v3 := L.v3; have t4 := L.t4; have a4 := L.a4; have z4 := L.z4; have v4 := L.v4; have t26 := L.t26; have a26 := L.a26; have z26 := L.z26; have v26 := L.v26; have t38 := L.t38; have a38 := L.a38; have z38 := L.z38; have v38 := L.v38; have t42 := L.t42; have a42 := L.a42; have z42 := L.z42; have v42 := L.v42; have t47 := L.t47; have a47 := L.a47; have z47 := L.z47; have v47 := L.v47
 have u42 := run_underlying L.t42
 have hW1 : SWB enc k w blk off d (w.alloc (.cells (dat g lb sf sb) (ρ.t 42))) := (SWB.start hH).alloc _
 have hH1 : HoldsK enc k (w.alloc (.cells (dat g lb sf sb) (ρ.t 42))) blk off d := hW1.holds hblk hH rfl
 have hblk1 : blk < (w.alloc (.cells (dat g lb sf sb) (ρ.t 42))).heap.size := hW1.lt hblk
 have hL1 : LessB P g lb enc k lt blk off d.size (w.alloc (.cells (dat g lb sf sb) (ρ.t 42))) := hW1.lessReads hless hblk rfl
 have hsrt := (seg_srt (lt := lt) (show m ≤ d.size by omega)).1 hs2
 have hz0 : (b : Int) - (m : Int) = 1 := by omega
 have hz1 : ((m : Int) - (a : Int) == 1) = false := by simp; omega
 have HM : Aside _ := hm
 have hmb : m < b := by omega
 clear hm
 go_enter L.f30, BodyGt.n30_ntmps ρ
 go_wp2
 go_loopw [12, 13] (fun vi vj wr => ∃ (i j : Nat), vi = .int .i64 i ∧ vj = .int .i64 j ∧ a ≤ i ∧ i ≤ j ∧ j ≤ m ∧ SWB enc k (w.alloc (.cells (dat g lb sf sb) (ρ.t 42))) blk off d wr ∧ (∀ q, a ≤ q → q < i → lt d[m]! d[q]! = false) ∧ (∀ q, j ≤ q → q < m → lt d[m]! d[q]! = true)) (fun vi vj _ => (intOf vj).toNat - (intOf vi).toNat)
 case atStart => exact ⟨a, m, rfl, rfl, by omega, by omega, by omega, SWB.start hH1, fun q h1 h2 => by omega, fun q h1 h2 => by omega⟩
 case round =>
  obtain ⟨i, j, rfl, rfl, hi0, hij, hjb, hS, hl, hr⟩ := hrel
  have c0 := y14q hblk hS 0 (.func (.func g) #[] lb) (by simp)
  have c1 := y14q hblk hS 1 (.func (.func sf) #[] sb) (by simp)
  have HS : Aside _ := hS
  have HL : Aside _ := hl
  have HR : Aside _ := hr
  have HT : Aside _ := hsrt
  have HW1 : Aside _ := hW1
  have HH1 : Aside _ := hH1
  have HSW : Aside _ := hswap
  have hls := fun (x y : Nat) (h1 : x < d.size) (h2 : y < d.size) => hS.less hL1 rfl x y h1 h2
  have HLS : Aside _ := hls
  clear hS hl hr hsrt hs2 hH hH1 hW1 hless hL1 hswap hls
  by_cases hz : i < j
  ·have hz' : (i : Int) < j := by omega
   have hl1 := HLS.out m ((i + j) / 2) (by omega) (by omega)
   rw [show (((i + j) / 2 : Nat) : Int) = ((i : Int) + j) / 2 by omega] at hl1
   cases hv : lt d[m]! d[(i + j) / 2]! with
   | false =>
    rw [hv] at hl1
    go_wp2_with (go_at_fn g; refine hl1.mono ?_; rintro e w' ⟨rfl, hB⟩)
    go_roundw
    case rel => exact ⟨(i + j) / 2 + 1, j, by go_num, rfl, by omega, by omega, hjb, SWB.below HS.out hB, fun p h1 h2 => (Nat.lt_or_ge p ((i + j) / 2)).elim (fun h => hlt.neg _ _ _ hv (HT.out p ((i + j) / 2) h1 h (by omega))) (fun h => by rw [show p = (i + j) / 2 by omega]; exact hv), HR.out⟩
    case measure => simp [intOf]; omega
   | true =>
    rw [hv] at hl1
    go_wp2_with (go_at_fn g; refine hl1.mono ?_; rintro e w' ⟨rfl, hB⟩)
    go_roundw
    case rel => exact ⟨i, (i + j) / 2, rfl, by go_num, hi0, by omega, by omega, SWB.below HS.out hB, HL.out, fun p h1 h2 => (Nat.eq_or_lt_of_le h1).elim (fun h => by rw [← h]; exact hv) (fun h => hlt.left hv (HT.out ((i + j) / 2) p (by omega) h h2))⟩
    case measure => simp [intOf]; omega
  ·obtain rfl : i = j := by omega
   have hz' : ¬ ((i : Int) < i) := by omega
   go_wp2
   go_loopw [15] (fun vi wr => ∃ (p : Nat) (dk : Array α), vi = .int .i64 p ∧ i ≤ p ∧ p ≤ m ∧ dk.size = d.size ∧ SWB enc k (w.alloc (.cells (dat g lb sf sb) (ρ.t 42))) blk off dk wr ∧ bubD (p - i) p dk = bubD (m - i) m d) (fun vi _ => (intOf vi).toNat)
   case atStart => exact ⟨m, d, rfl, by omega, Nat.le_refl _, rfl, HS.out, rfl⟩
   case round =>
    obtain ⟨p, dk, rfl, hap, hpi, hsk, hS, hO⟩ := hrel
    have c0 := y14q hblk hS 0 (.func (.func g) #[] lb) (by simp)
    have c1 := y14q hblk hS 1 (.func (.func sf) #[] sb) (by simp)
    have hHw := hS.holds hblk1 HH1.out hsk
    have HS2 : Aside _ := hS
    have HO : Aside _ := hO
    have HHw : Aside _ := hHw
    clear hS hO hHw
    by_cases hq : i < p
    ·have hq' : (p : Int) > (i : Int) := by omega
     have hs := HSW.out _ dk HHw.out hsk p (p - 1) (by omega) (by omega)
     rw [show ((p - 1 : Nat) : Int) = (p : Int) - 1 by omega] at hs
     go_wp2
     exact ⟨⟨p - 1, swp dk p (p - 1), by go_num, by omega, by omega, by rw [swp_size]; exact hsk, SWB.swap HS2.out hk hblk1 p (p - 1) (by omega) (by omega), by rw [← HO.out, show p - i = (p - 1 - i) + 1 by omega, bubD]⟩, by simp [intOf]; omega⟩
    ·have hq' : ¬ ((p : Int) > (i : Int)) := by omega
     go_wp2
     (try simp only [Exit.inBlock, Exit.then]); refine bodyPost_ret (results_none rfl _ _ _) rfl ?_
     refine ⟨rfl, ?_⟩
     have hO := HO.out
     rw [show p - i = 0 by omega, bubD] at hO
     have hm := HM.out
     subst hm
     rw [sym_last hlt hi0 hjb hb HL.out HR.out] at hO
     rw [← hO]
     exact y45q hblk HW1.out HS2.out hsk
end Go.Proofs
end
section
namespace Go.Ev
open Go.Sort (swp)
section
variable {α : Type} [Inhabited α] {lt : α → α → Bool}
theorem sym_range {a m b s0 r0 mid : Nat} (ham : a < m) (hmb : m < b) (hmid : mid = (a + b) / 2) (h0 : (s0 = a ∧ r0 = m ∧ m ≤ mid) ∨ (s0 + b = mid + m ∧ r0 = mid ∧ mid < m)) :
  a ≤ s0 ∧ s0 ≤ r0 ∧ r0 ≤ m ∧ r0 ≤ mid ∧ ∀ q, s0 ≤ q → q < r0 → a ≤ q ∧ q < m ∧ m ≤ mid + m - 1 - q ∧ mid + m - 1 - q < b := by
 rcases h0 with ⟨rfl, rfl, h⟩ | ⟨h1, rfl, h⟩
 ·exact ⟨by omega, by omega, by omega, by omega, fun q h1 h2 => ⟨by omega, by omega, by omega, by omega⟩⟩
 ·exact ⟨by omega, by omega, by omega, by omega, fun q h2 h3 => ⟨by omega, by omega, by omega, by omega⟩⟩
theorem sym_low (h : Weak lt) {d : Array α} {a m b x y c q : Nat} (hT1 : ∀ i j, a ≤ i → i < j → j < m → lt d[j]! d[i]! = false) (hT2 : ∀ i j, m ≤ i → i < j → j < b → lt d[j]! d[i]! = false)
  (hq : a ≤ q) (hqc : q ≤ c) (hc : c < m) (hx : m ≤ x) (hxy : x ≤ y) (hy : y < b) (hv : lt d[x]! d[c]! = false) : lt d[y]! d[q]! = false := by
 have e1 : lt d[y]! d[c]! = false := by
  rcases Nat.eq_or_lt_of_le hxy with e | e
  ·rw [← e]; exact hv
  ·exact h.neg _ _ _ (hT2 x y hx e hy) hv
 rcases Nat.eq_or_lt_of_le hqc with e | e
 ·rw [e]; exact e1
 ·exact h.neg _ _ _ e1 (hT1 q c hq e hc)
theorem sym_high (h : Weak lt) {d : Array α} {a m b x y c q : Nat} (hT1 : ∀ i j, a ≤ i → i < j → j < m → lt d[j]! d[i]! = false) (hT2 : ∀ i j, m ≤ i → i < j → j < b → lt d[j]! d[i]! = false)
  (hc : a ≤ c) (hqc : c ≤ q) (hq : q < m) (hy : m ≤ y) (hxy : y ≤ x) (hx : x < b) (hv : lt d[x]! d[c]! = true) : lt d[y]! d[q]! = true := by
 have e1 : lt d[y]! d[c]! = true := by
  rcases Nat.eq_or_lt_of_le hxy with e | e
  ·rw [e]; exact hv
  ·exact h.right (hT2 y x hy e hx) hv
 rcases Nat.eq_or_lt_of_le hqc with e | e
 ·rw [← e]; exact e1
 ·exact h.left e1 (hT1 c q hc e hq)
theorem sym_cut (h : Weak lt) {d : Array α} {a m b s0 r0 s mid : Nat} (ham : a < m) (hmb : m < b) (hmid : mid = (a + b) / 2) (h0 : (s0 = a ∧ r0 = m ∧ m ≤ mid) ∨ (s0 + b = mid + m ∧ r0 = mid ∧ mid < m))
  (hT1 : ∀ i j, a ≤ i → i < j → j < m → lt d[j]! d[i]! = false) (hT2 : ∀ i j, m ≤ i → i < j → j < b → lt d[j]! d[i]! = false) (h1 : s0 ≤ s) (h2 : s ≤ r0)
  (hl : ∀ q, s0 ≤ q → q < s → lt d[mid + m - 1 - q]! d[q]! = false) (hr : ∀ q, s ≤ q → q < r0 → lt d[mid + m - 1 - q]! d[q]! = true) :
  (a ≤ s ∧ s ≤ m ∧ m ≤ mid + m - s ∧ mid + m - s ≤ b ∧ s ≤ mid) ∧ (∀ i j, a ≤ i → i < s → mid + m - s ≤ j → j < b → lt d[j]! d[i]! = false) ∧ ∀ i j, s ≤ i → i < m → m ≤ j → j < mid + m - s → lt d[j]! d[i]! = true := by
 obtain ⟨r1, r2, r3, r4, r5⟩ := sym_range ham hmb hmid h0
 refine ⟨⟨by omega, by omega, by omega, by omega, by omega⟩, fun i j g1 g2 g3 g4 => ?_, fun i j g1 g2 g3 g4 => ?_⟩
 ·by_cases hs : s = s0
  ·exfalso; omega
  ·have hv := hl (s - 1) (by omega) (by omega)
   obtain ⟨b1, b2, b3, b4⟩ := r5 (s - 1) (by omega) (by omega)
   exact sym_low h hT1 hT2 g1 (by omega) b2 b3 (by omega) g4 hv
 ·by_cases hs : s = r0
  ·exfalso; omega
  ·have hv := hr s (by omega) (by omega)
   obtain ⟨b1, b2, b3, b4⟩ := r5 s (by omega) (by omega)
   exact sym_high h hT1 hT2 b1 g1 g2 g3 (by omega) b4 hv
theorem rotA_id {d : Array α} {s m e : Nat} (h1 : s ≤ m) (h2 : m ≤ e) (h3 : e ≤ d.size) (h : ¬ (s < m ∧ m < e)) : rotA d s m e = d := by
 obtain ⟨P, X, Y, Q, hd, ha, hm, hb⟩ := cut4 d.toList h1 h2 (by simpa using h3)
 apply arr_eq
 rw [y115q hd ha hm hb, hd]
 by_cases hx : X = []
 ·subst hx; simp
 ·have : Y = [] := by
   have := List.length_pos_iff.2 hx
   exact List.eq_nil_of_length_eq_zero (by omega)
  subst this; simp
theorem mrgA_id {d : Array α} {a m b : Nat} (h1 : a ≤ m) (h2 : m ≤ b) (h3 : b ≤ d.size) (h : ¬ (a < m ∧ m < b)) : mrgA lt d a m b = d := by
 obtain ⟨P, X, Y, Q, hd, ha, hm, hb⟩ := cut4 d.toList h1 h2 (by simpa using h3)
 apply arr_eq
 rw [y116q lt hd ha hm hb, hd]
 by_cases hx : X = []
 ·subst hx; simp [nil_mrg]
 ·have : Y = [] := by
   have := List.length_pos_iff.2 hx
   exact List.eq_nil_of_length_eq_zero (by omega)
  subst this; simp [y123q]
end
end Go.Ev
end
section
namespace Go.Proofs
open Go.Shelf Go.RowKit Go.Lib Go.Sort Go.Ev
variable {P : Program} {ρ : Ren} {α : Type} [Inhabited α]
set_option maxHeartbeats 40000000 in
set_option maxRecDepth 100000 in
theorem Sb.symMerge_many (L : LaysGt.n30 P ρ) (enc : α → List Value) (k : Nat) (hk : ∀ x, (enc x).length = k) (lt : α → α → Bool) (hlt : Weak lt) (g : Nat) (lb : Array Value) (sf : Nat) (sb : Array Value) (blk off a m b : Nat) (ham : a < m) (d : Array α) (w : World)
  (eg : ∀ args w, (callFunc g args).run P w = .ok (.enter g args) w) (hless : LessB P g lb enc k lt blk off d.size w) (hswap : SwapSwapsK P sf sb enc k blk off d.size)
  (hH : HoldsK enc k w blk off d) (hblk : blk < w.heap.size) (hmb : m < b) (hn1 : ¬ m - a = 1) (hn2 : ¬ b - m = 1) (hb : b ≤ d.size) (hsz : d.size < 4611686018427387904) (hs1 : Srt lt (seg d a m)) (hs2 : Srt lt (seg d m b))
  (IH : ∀ (a' m' b' : Nat) (d' : Array α) (w' : World), b' - a' < b - a → a' < m' → m' < b' → b' ≤ d'.size → d'.size = d.size → LessB P g lb enc k lt blk off d.size w' → HoldsK enc k w' blk off d' → blk < w'.heap.size → Srt lt (seg d' a' m') → Srt lt (seg d' m' b') →
   Calls P (ρ.f 30) #[.agg (dat g lb sf sb), .int .i64 a', .int .i64 m', .int .i64 b'] w' fun e w'' => e = .returned (.tuple #[]) ∧ SWB enc k w' blk off (mrgA lt d' a' m' b') w'') :
  Calls P (ρ.f 30) #[.agg (dat g lb sf sb), .int .i64 a, .int .i64 m, .int .i64 b] w fun e w' => e = .returned (.tuple #[]) ∧ SWB enc k w blk off (mrgA lt d a m b) w' := by
 have mixed := L.mixed; have t0 := L.t0; have a0 := L.a0; have z0 := L.z0; have v0 := L.v0; have t3 := L.t3; have a3 := L.a3; have z3 := L.z3; have v3 := L.v3; have t4 := L.t4; have a4 := L.a4; have z4 := L.z4; have v4 := L.v4; have t26 := L.t26; have a26 := L.a26; have z26 := L.z26; have v26 := L.v26; have t38 := L.t38; have a38 := L.a38; have z38 := L.z38; have v38 := L.v38; have t42 := L.t42; have a42 := L.a42; have z42 := L.z42; have v42 := L.v42; have t47 := L.t47; have a47 := L.a47; have z47 := L.z47; have v47 := L.v47
 have u42 := run_underlying L.t42
 have hW1 : SWB enc k w blk off d (w.alloc (.cells (dat g lb sf sb) (ρ.t 42))) := (SWB.start hH).alloc _
 have hH1 : HoldsK enc k (w.alloc (.cells (dat g lb sf sb) (ρ.t 42))) blk off d := hW1.holds hblk hH rfl
 have hblk1 : blk < (w.alloc (.cells (dat g lb sf sb) (ρ.t 42))).heap.size := hW1.lt hblk
 have hL1 : LessB P g lb enc k lt blk off d.size (w.alloc (.cells (dat g lb sf sb) (ρ.t 42))) := hW1.lessReads hless hblk rfl
 have hT1 := (seg_srt (lt := lt) (show m ≤ d.size by omega)).1 hs1
 have hT2 := (seg_srt (lt := lt) hb).1 hs2
 have e30 : ∀ args w, (callFunc (ρ.f 30) args).run P w = .ok (.enter (ρ.f 30) args) w := enters_of L.f30 (by kernel_rfl) rfl
 have e42 : ∀ args w, (callFunc (ρ.f 42) args).run P w = .ok (.enter (ρ.f 42) args) w := enters_of L.f42 (by kernel_rfl) rfl
 have LR : LaysGt.n42 P ρ := { L with }
 have hz0 : ((m : Int) - (a : Int) == 1) = false := by simp; omega
 have hz1 : ((b : Int) - (m : Int) == 1) = false := by simp; omega
 obtain ⟨mid, hmid⟩ : ∃ mid, mid = (a + b) / 2 := ⟨_, rfl⟩
 have HMZ : Aside (((a : Int) + b) / 2 = (mid : Int)) := (show ((a : Int) + b) / 2 = (mid : Int) by omega)
 have HMID : Aside _ := hmid
 have HT1 : Aside _ := hT1
 have HT2 : Aside _ := hT2
 have HW1 : Aside _ := hW1
 have HH1 : Aside _ := hH1
 have HL1 : Aside _ := hL1
 have HSWP : Aside _ := hswap
 have HS1 : Aside _ := hs1
 have HS2 : Aside _ := hs2
 have IHH : Aside _ := IH
 clear hT1 hT2 hW1 hH1 hL1 hswap hs1 hs2 IH hless hH
 by_cases hgt : mid < m
 ·have hgz : (m : Int) > ((a : Int) + b) / 2 := by omega
  obtain ⟨s0, hs0⟩ : ∃ s0, s0 + b = mid + m := ⟨mid + m - b, by omega⟩
  obtain ⟨r0, hr0⟩ : ∃ r0, r0 = mid := ⟨_, rfl⟩
  have h0 : (s0 = a ∧ r0 = m ∧ m ≤ mid) ∨ (s0 + b = mid + m ∧ r0 = mid ∧ mid < m) := .inr ⟨hs0, hr0, hgt⟩
  have H0 : Aside _ := h0
  have HRG : Aside _ := sym_range ham hmb hmid h0
  clear h0 hs0 hr0 hmid hgt
  go_enter L.f30, BodyGt.n30_ntmps ρ
  go_wp2
  go_loopw [18, 19] (fun vi vj wr => ∃ (i j : Nat), vi = .int .i64 i ∧ vj = .int .i64 j ∧ s0 ≤ i ∧ i ≤ j ∧ j ≤ r0 ∧ SWB enc k (w.alloc (.cells (dat g lb sf sb) (ρ.t 42))) blk off d wr ∧ (∀ q, s0 ≤ q → q < i → lt d[mid + m - 1 - q]! d[q]! = false) ∧ (∀ q, j ≤ q → q < r0 → lt d[mid + m - 1 - q]! d[q]! = true)) (fun vi vj _ => (intOf vj).toNat - (intOf vi).toNat)
  case atStart => exact ⟨s0, r0, by have h1 := HMID.out; have h2 := H0.out; congr 1; omega, by have h1 := HMID.out; have h2 := H0.out; congr 1; omega, Nat.le_refl _, HRG.out.2.1, Nat.le_refl _, SWB.start HH1.out, fun q h1 h2 => by omega, fun q h1 h2 => by omega⟩
  case round =>
   obtain ⟨i, j, rfl, rfl, hi0, hij, hjb, hS, hl, hr⟩ := hrel
   have c0 := y14q hblk hS 0 (.func (.func g) #[] lb) (by simp)
   have c1 := y14q hblk hS 1 (.func (.func sf) #[] sb) (by simp)
   have HS : Aside _ := hS
   have HL : Aside _ := hl
   have HR : Aside _ := hr
   have hls := fun (x y : Nat) (h1 : x < d.size) (h2 : y < d.size) => hS.less HL1.out rfl x y h1 h2
   have HLS : Aside _ := hls
   clear hS hl hr hls
   have hjm : j ≤ m := Nat.le_trans hjb HRG.out.2.2.1
   by_cases hz : i < j
   ·have hz' : (i : Int) < j := by omega
    obtain ⟨p1, p2, p3, p4⟩ := HRG.out.2.2.2.2 ((i + j) / 2) (by omega) (by omega)
    have hl1 := HLS.out (mid + m - 1 - (i + j) / 2) ((i + j) / 2) (by omega) (by omega)
    rw [show ((mid + m - 1 - (i + j) / 2 : Nat) : Int) = ((a : Int) + b) / 2 + m - 1 - ((i : Int) + j) / 2 by have := HMID.out; omega, show (((i + j) / 2 : Nat) : Int) = ((i : Int) + j) / 2 by omega] at hl1
    have P1 : Aside _ := p1
    have P2 : Aside _ := p2
    have P3 : Aside _ := p3
    have P4 : Aside _ := p4
    clear p1 p2 p3 p4
    cases hv : lt d[mid + m - 1 - (i + j) / 2]! d[(i + j) / 2]! with
    | false =>
     rw [hv] at hl1
     go_wp2_with (go_at_fn g; refine hl1.mono ?_; rintro e w' ⟨rfl, hB⟩)
     go_roundw
     case rel => exact ⟨(i + j) / 2 + 1, j, by go_num, rfl, by omega, by omega, hjb, SWB.below HS.out hB, fun p h1 h2 => (Nat.lt_or_ge p ((i + j) / 2)).elim (fun h => by
      obtain ⟨g1, g2, g3, g4⟩ := HRG.out.2.2.2.2 p h1 (by omega)
      exact sym_low hlt HT1.out HT2.out g1 (by omega) P2.out P3.out (by omega) g4 hv) (fun h => by rw [show p = (i + j) / 2 by omega]; exact hv), HR.out⟩
     case measure => simp [intOf]; omega
    | true =>
     rw [hv] at hl1
     go_wp2_with (go_at_fn g; refine hl1.mono ?_; rintro e w' ⟨rfl, hB⟩)
     go_roundw
     case rel => exact ⟨i, (i + j) / 2, rfl, by go_num, hi0, by omega, by omega, SWB.below HS.out hB, HL.out, fun p h1 h2 => by
      obtain ⟨g1, g2, g3, g4⟩ := HRG.out.2.2.2.2 p (by omega) h2
      exact sym_high hlt HT1.out HT2.out P1.out h1 g2 g3 (by omega) P4.out hv⟩
     case measure => simp [intOf]; omega
   ·obtain rfl : i = j := by omega
    have hz' : ¬ ((i : Int) < i) := by omega
    obtain ⟨⟨v1, v2, v3, v4, v5⟩, cl, cr⟩ := sym_cut hlt ham hmb HMID.out H0.out HT1.out HT2.out hi0 hjb HL.out HR.out
    have CL : Aside _ := cl
    have CR : Aside _ := cr
    clear cl cr
    have hE : ((mid + m - i : Nat) : Int) = ((a : Int) + b) / 2 + m - i := by have := HMID.out; omega
    have hM : ((mid : Nat) : Int) = ((a : Int) + b) / 2 := by have := HMID.out; omega
    have HE : Aside _ := hE
    have HM : Aside _ := hM
    have hHw := SWB.holds HS.out hblk1 HH1.out rfl
    have HHw : Aside _ := hHw
    have halv := sym_halves (lt := lt) (mid := mid) hlt v1 v2 v3 v4 hb (by omega) CL.out CR.out
    have HV : Aside _ := halv
    have HV3 : Aside (m ≤ mid + m - i) := v3
    have HV4 : Aside (mid + m - i ≤ b) := v4
    have HV5 : Aside (i ≤ mid) := v5
    clear hHw halv v3 v4 v5 hE hM
    have sz1 : (rotA d i m (mid + m - i)).size = d.size := rotA_size (by omega) HV3.out (by have := HV4.out; omega)
    have sz2 : (mrgA lt (rotA d i m (mid + m - i)) a i mid).size = d.size := by rw [y100q lt (by omega) HV5.out (by have := HMID.out; omega), sz1]
    have SZ1 : Aside _ := sz1
    have SZ2 : Aside _ := sz2
    clear sz1 sz2
    have calls1 : ∀ W, SWB enc k (w.alloc (.cells (dat g lb sf sb) (ρ.t 42))) blk off (rotA d i m (mid + m - i)) W → a < i → i < mid → Calls P (ρ.f 30) #[.agg (dat g lb sf sb), .int .i64 a, .int .i64 i, .int .i64 (((a : Int) + b) / 2)] W fun e w'' => e = .returned (.tuple #[]) ∧ SWB enc k (w.alloc (.cells (dat g lb sf sb) (ρ.t 42))) blk off (mrgA lt (rotA d i m (mid + m - i)) a i mid) w'' := fun W hW g1 g2 => by
     have := IHH.out a i mid (rotA d i m (mid + m - i)) W (by have := HMID.out; omega) g1 g2 (by rw [SZ1.out]; have := HMID.out; omega) SZ1.out (hW.lessReads HL1.out hblk1 SZ1.out) (hW.holds hblk1 HH1.out SZ1.out) (hW.lt hblk1) (HV.out.2 HS1.out HS2.out).1 (HV.out.2 HS1.out HS2.out).2.1
     rw [HM.out] at this
     exact this.mono fun e w'' h => ⟨h.1, y45q hblk1 hW h.2 (by rw [SZ2.out, SZ1.out])⟩
    have calls2 : ∀ W, SWB enc k (w.alloc (.cells (dat g lb sf sb) (ρ.t 42))) blk off (mrgA lt (rotA d i m (mid + m - i)) a i mid) W → i < m → mid + m - i < b → Calls P (ρ.f 30) #[.agg (dat g lb sf sb), .int .i64 (((a : Int) + b) / 2), .int .i64 (((a : Int) + b) / 2 + m - i), .int .i64 b] W fun e w'' => e = .returned (.tuple #[]) ∧ SWB enc k (w.alloc (.cells (dat g lb sf sb) (ρ.t 42))) blk off (mrgA lt d a m b) w'' := fun W hW g1 g2 => by
     have := IHH.out mid (mid + m - i) b (mrgA lt (rotA d i m (mid + m - i)) a i mid) W (by have := HMID.out; omega) (by omega) g2 (by rw [SZ2.out]; exact hb) SZ2.out (hW.lessReads HL1.out hblk1 SZ2.out) (hW.holds hblk1 HH1.out SZ2.out) (hW.lt hblk1) (HV.out.2 HS1.out HS2.out).2.2.1 (HV.out.2 HS1.out HS2.out).2.2.2
     rw [HM.out, HE.out, HV.out.1] at this
     exact this.mono fun e w'' h => ⟨h.1, y45q hblk1 hW h.2 (by rw [y100q lt (by omega) (by omega) hb, SZ2.out])⟩
    have rotc : i < m → m < mid + m - i → Calls P (ρ.f 42) #[.agg (dat g lb sf sb), .int .i64 i, .int .i64 m, .int .i64 (((a : Int) + b) / 2 + m - i)] wr fun e w'' => e = .returned (.tuple #[]) ∧ SWB enc k (w.alloc (.cells (dat g lb sf sb) (ρ.t 42))) blk off (rotA d i m (mid + m - i)) w'' := fun g1 g2 => by
     have := Sb.rotate LR enc k hk g lb sf sb blk off i m (mid + m - i) d wr HSWP.out HHw.out (SWB.lt HS.out hblk1) g1 g2 (by have := HV4.out; omega) hsz
     rw [HE.out] at this
     exact this.mono fun e w'' h => ⟨h.1, y45q hblk1 HS.out h.2 SZ1.out⟩
    have rot0 : ¬ (i < m ∧ m < mid + m - i) → SWB enc k (w.alloc (.cells (dat g lb sf sb) (ρ.t 42))) blk off (rotA d i m (mid + m - i)) wr := fun g => by
     rw [rotA_id (by omega) HV3.out (by have := HV4.out; omega) g]; exact HS.out
    have sym0 : ∀ W, SWB enc k (w.alloc (.cells (dat g lb sf sb) (ρ.t 42))) blk off (rotA d i m (mid + m - i)) W → ¬ (a < i ∧ i < mid) → SWB enc k (w.alloc (.cells (dat g lb sf sb) (ρ.t 42))) blk off (mrgA lt (rotA d i m (mid + m - i)) a i mid) W := fun W hW g => by
     rw [mrgA_id (by omega) HV5.out (by rw [SZ1.out]; have := HMID.out; omega) g]; exact hW
    have sym9 : ∀ W, SWB enc k (w.alloc (.cells (dat g lb sf sb) (ρ.t 42))) blk off (mrgA lt (rotA d i m (mid + m - i)) a i mid) W → ¬ (mid < mid + m - i ∧ mid + m - i < b) → SWB enc k (w.alloc (.cells (dat g lb sf sb) (ρ.t 42))) blk off (mrgA lt d a m b) W := fun W hW g => by
     have h := HV.out.1
     rw [mrgA_id (d := mrgA lt (rotA d i m (mid + m - i)) a i mid) (by omega) HV4.out (by rw [SZ2.out]; exact hb) g] at h
     rw [← h]; exact hW
    have CALL1 : Aside _ := calls1
    have CALL2 : Aside _ := calls2
    have ROTC : Aside _ := rotc
    have ROT0 : Aside _ := rot0
    have SYM0 : Aside _ := sym0
    have SYM9 : Aside _ := sym9
    clear calls1 calls2 rotc rot0 sym0 sym9
    have hfin : ∀ W, SWB enc k (w.alloc (.cells (dat g lb sf sb) (ρ.t 42))) blk off (mrgA lt d a m b) W → SWB enc k w blk off (mrgA lt d a m b) W := fun W hW => y45q hblk HW1.out hW (y100q lt (by omega) (by omega) hb)
    have HFIN : Aside _ := hfin
    clear hfin
    by_cases A : i < m
    ·have A1 : (i : Int) < m := by omega
     have A2 : ((a : Int) + b) / 2 < ((a : Int) + b) / 2 + m - i := by omega
     by_cases B : i < mid
     ·have B1 : (m : Int) < ((a : Int) + b) / 2 + m - i := by have := HM.out; omega
      have B2 : (i : Int) < ((a : Int) + b) / 2 := by have := HM.out; omega
      by_cases C : a < i
      ·have C1 : (a : Int) < i := by omega
       by_cases D : mid + m - i < b
       ·have D1 : ((a : Int) + b) / 2 + m - i < b := by have := HE.out; omega
        have E1 : Aside (SWB enc k (w.alloc (.cells (dat g lb sf sb) (ρ.t 42))) blk off d wr) := HS.out
        go_wp2_with (first | (go_at_fn (ρ.f 42); refine (ROTC.out (by omega) (by omega)).mono ?_; rintro e w1 ⟨rfl, hS1⟩; have d10 := y14q hblk hS1 0 (.func (.func g) #[] lb) (by simp); have d11 := y14q hblk hS1 1 (.func (.func sf) #[] sb) (by simp)) | (go_at_fn_of (ρ.f 30) (Value.int .i64 (a : Int)); refine (CALL1.out _ hS1 (by omega) (by omega)).mono ?_; rintro e w2 ⟨rfl, hS2⟩; have d20 := y14q hblk hS2 0 (.func (.func g) #[] lb) (by simp); have d21 := y14q hblk hS2 1 (.func (.func sf) #[] sb) (by simp)) | (go_at_fn_of (ρ.f 30) (Value.int .i64 (b : Int)); refine (CALL2.out _ hS2 (by omega) (by omega)).mono ?_; rintro e w3 ⟨rfl, hS3⟩))
        all_goals (first | (go_end0; exact ⟨rfl, HFIN.out _ hS3⟩) | exact ⟨rfl, HFIN.out _ hS3⟩)
       ·have D1 : ¬ (((a : Int) + b) / 2 + m - i < b) := by have := HE.out; omega
        have E1 : Aside (SWB enc k (w.alloc (.cells (dat g lb sf sb) (ρ.t 42))) blk off d wr) := HS.out
        go_wp2_with (first | (go_at_fn (ρ.f 42); refine (ROTC.out (by omega) (by omega)).mono ?_; rintro e w1 ⟨rfl, hS1⟩; have d10 := y14q hblk hS1 0 (.func (.func g) #[] lb) (by simp); have d11 := y14q hblk hS1 1 (.func (.func sf) #[] sb) (by simp)) | (go_at_fn_of (ρ.f 30) (Value.int .i64 (a : Int)); refine (CALL1.out _ hS1 (by omega) (by omega)).mono ?_; rintro e w2 ⟨rfl, hS2⟩; have d20 := y14q hblk hS2 0 (.func (.func g) #[] lb) (by simp); have d21 := y14q hblk hS2 1 (.func (.func sf) #[] sb) (by simp)))
        all_goals (first | (go_end0; exact ⟨rfl, HFIN.out _ (SYM9.out _ hS2 (by omega))⟩) | exact ⟨rfl, HFIN.out _ (SYM9.out _ hS2 (by omega))⟩)
      ·have C1 : ¬ ((a : Int) < i) := by omega
       by_cases D : mid + m - i < b
       ·have D1 : ((a : Int) + b) / 2 + m - i < b := by have := HE.out; omega
        have E1 : Aside (SWB enc k (w.alloc (.cells (dat g lb sf sb) (ρ.t 42))) blk off d wr) := HS.out
        go_wp2_with (first | (go_at_fn (ρ.f 42); refine (ROTC.out (by omega) (by omega)).mono ?_; rintro e w1 ⟨rfl, hS1⟩; have d10 := y14q hblk hS1 0 (.func (.func g) #[] lb) (by simp); have d11 := y14q hblk hS1 1 (.func (.func sf) #[] sb) (by simp)) | (go_at_fn_of (ρ.f 30) (Value.int .i64 (b : Int)); refine (CALL2.out _ (SYM0.out _ hS1 (by omega)) (by omega) (by omega)).mono ?_; rintro e w3 ⟨rfl, hS3⟩))
        all_goals (first | (go_end0; exact ⟨rfl, HFIN.out _ hS3⟩) | exact ⟨rfl, HFIN.out _ hS3⟩)
       ·have D1 : ¬ (((a : Int) + b) / 2 + m - i < b) := by have := HE.out; omega
        have E1 : Aside (SWB enc k (w.alloc (.cells (dat g lb sf sb) (ρ.t 42))) blk off d wr) := HS.out
        go_wp2_with (first | (go_at_fn (ρ.f 42); refine (ROTC.out (by omega) (by omega)).mono ?_; rintro e w1 ⟨rfl, hS1⟩; have d10 := y14q hblk hS1 0 (.func (.func g) #[] lb) (by simp); have d11 := y14q hblk hS1 1 (.func (.func sf) #[] sb) (by simp)))
        all_goals (first | (go_end0; exact ⟨rfl, HFIN.out _ (SYM9.out _ (SYM0.out _ hS1 (by omega)) (by omega))⟩) | exact ⟨rfl, HFIN.out _ (SYM9.out _ (SYM0.out _ hS1 (by omega)) (by omega))⟩)
     ·have B1 : ¬ ((m : Int) < ((a : Int) + b) / 2 + m - i) := by have := HM.out; omega
      have B2 : ¬ ((i : Int) < ((a : Int) + b) / 2) := by have := HM.out; omega
      by_cases C : a < i
      ·have C1 : (a : Int) < i := by omega
       by_cases D : mid + m - i < b
       ·have D1 : ((a : Int) + b) / 2 + m - i < b := by have := HE.out; omega
        have E1 : Aside (SWB enc k (w.alloc (.cells (dat g lb sf sb) (ρ.t 42))) blk off d wr) := HS.out
        have hS1 := ROT0.out (by omega)
        go_wp2_with (first | (go_at_fn_of (ρ.f 30) (Value.int .i64 (b : Int)); refine (CALL2.out _ (SYM0.out _ hS1 (by omega)) (by omega) (by omega)).mono ?_; rintro e w3 ⟨rfl, hS3⟩))
        all_goals (first | (go_end0; exact ⟨rfl, HFIN.out _ hS3⟩) | exact ⟨rfl, HFIN.out _ hS3⟩)
       ·have D1 : ¬ (((a : Int) + b) / 2 + m - i < b) := by have := HE.out; omega
        have E1 : Aside (SWB enc k (w.alloc (.cells (dat g lb sf sb) (ρ.t 42))) blk off d wr) := HS.out
        have hS1 := ROT0.out (by omega)
        go_wp2
        all_goals (first | (go_end0; exact ⟨rfl, HFIN.out _ (SYM9.out _ (SYM0.out _ hS1 (by omega)) (by omega))⟩) | exact ⟨rfl, HFIN.out _ (SYM9.out _ (SYM0.out _ hS1 (by omega)) (by omega))⟩)
      ·have C1 : ¬ ((a : Int) < i) := by omega
       by_cases D : mid + m - i < b
       ·have D1 : ((a : Int) + b) / 2 + m - i < b := by have := HE.out; omega
        have E1 : Aside (SWB enc k (w.alloc (.cells (dat g lb sf sb) (ρ.t 42))) blk off d wr) := HS.out
        have hS1 := ROT0.out (by omega)
        go_wp2_with (first | (go_at_fn_of (ρ.f 30) (Value.int .i64 (b : Int)); refine (CALL2.out _ (SYM0.out _ hS1 (by omega)) (by omega) (by omega)).mono ?_; rintro e w3 ⟨rfl, hS3⟩))
        all_goals (first | (go_end0; exact ⟨rfl, HFIN.out _ hS3⟩) | exact ⟨rfl, HFIN.out _ hS3⟩)
       ·have D1 : ¬ (((a : Int) + b) / 2 + m - i < b) := by have := HE.out; omega
        have E1 : Aside (SWB enc k (w.alloc (.cells (dat g lb sf sb) (ρ.t 42))) blk off d wr) := HS.out
        have hS1 := ROT0.out (by omega)
        go_wp2
        all_goals (first | (go_end0; exact ⟨rfl, HFIN.out _ (SYM9.out _ (SYM0.out _ hS1 (by omega)) (by omega))⟩) | exact ⟨rfl, HFIN.out _ (SYM9.out _ (SYM0.out _ hS1 (by omega)) (by omega))⟩)
    ·have A1 : ¬ ((i : Int) < m) := by omega
     have A2 : ¬ (((a : Int) + b) / 2 < ((a : Int) + b) / 2 + m - i) := by omega
     by_cases B : i < mid
     ·have B1 : (m : Int) < ((a : Int) + b) / 2 + m - i := by have := HM.out; omega
      have B2 : (i : Int) < ((a : Int) + b) / 2 := by have := HM.out; omega
      by_cases C : a < i
      ·have C1 : (a : Int) < i := by omega
       by_cases D : mid + m - i < b
       ·have D1 : ((a : Int) + b) / 2 + m - i < b := by have := HE.out; omega
        have E1 : Aside (SWB enc k (w.alloc (.cells (dat g lb sf sb) (ρ.t 42))) blk off d wr) := HS.out
        have hS1 := ROT0.out (by omega)
        go_wp2_with (first | (go_at_fn_of (ρ.f 30) (Value.int .i64 (a : Int)); refine (CALL1.out _ hS1 (by omega) (by omega)).mono ?_; rintro e w2 ⟨rfl, hS2⟩; have d20 := y14q hblk hS2 0 (.func (.func g) #[] lb) (by simp); have d21 := y14q hblk hS2 1 (.func (.func sf) #[] sb) (by simp)))
        all_goals (first | (go_end0; exact ⟨rfl, HFIN.out _ (SYM9.out _ hS2 (by omega))⟩) | exact ⟨rfl, HFIN.out _ (SYM9.out _ hS2 (by omega))⟩)
       ·have D1 : ¬ (((a : Int) + b) / 2 + m - i < b) := by have := HE.out; omega
        have E1 : Aside (SWB enc k (w.alloc (.cells (dat g lb sf sb) (ρ.t 42))) blk off d wr) := HS.out
        have hS1 := ROT0.out (by omega)
        go_wp2_with (first | (go_at_fn_of (ρ.f 30) (Value.int .i64 (a : Int)); refine (CALL1.out _ hS1 (by omega) (by omega)).mono ?_; rintro e w2 ⟨rfl, hS2⟩; have d20 := y14q hblk hS2 0 (.func (.func g) #[] lb) (by simp); have d21 := y14q hblk hS2 1 (.func (.func sf) #[] sb) (by simp)))
        all_goals (first | (go_end0; exact ⟨rfl, HFIN.out _ (SYM9.out _ hS2 (by omega))⟩) | exact ⟨rfl, HFIN.out _ (SYM9.out _ hS2 (by omega))⟩)
      ·have C1 : ¬ ((a : Int) < i) := by omega
       by_cases D : mid + m - i < b
       ·have D1 : ((a : Int) + b) / 2 + m - i < b := by have := HE.out; omega
        have E1 : Aside (SWB enc k (w.alloc (.cells (dat g lb sf sb) (ρ.t 42))) blk off d wr) := HS.out
        have hS1 := ROT0.out (by omega)
        go_wp2
        all_goals (first | (go_end0; exact ⟨rfl, HFIN.out _ (SYM9.out _ (SYM0.out _ hS1 (by omega)) (by omega))⟩) | exact ⟨rfl, HFIN.out _ (SYM9.out _ (SYM0.out _ hS1 (by omega)) (by omega))⟩)
       ·have D1 : ¬ (((a : Int) + b) / 2 + m - i < b) := by have := HE.out; omega
        have E1 : Aside (SWB enc k (w.alloc (.cells (dat g lb sf sb) (ρ.t 42))) blk off d wr) := HS.out
        have hS1 := ROT0.out (by omega)
        go_wp2
        all_goals (first | (go_end0; exact ⟨rfl, HFIN.out _ (SYM9.out _ (SYM0.out _ hS1 (by omega)) (by omega))⟩) | exact ⟨rfl, HFIN.out _ (SYM9.out _ (SYM0.out _ hS1 (by omega)) (by omega))⟩)
     ·have B1 : ¬ ((m : Int) < ((a : Int) + b) / 2 + m - i) := by have := HM.out; omega
      have B2 : ¬ ((i : Int) < ((a : Int) + b) / 2) := by have := HM.out; omega
      by_cases C : a < i
      ·have C1 : (a : Int) < i := by omega
       by_cases D : mid + m - i < b
       ·have D1 : ((a : Int) + b) / 2 + m - i < b := by have := HE.out; omega
        have E1 : Aside (SWB enc k (w.alloc (.cells (dat g lb sf sb) (ρ.t 42))) blk off d wr) := HS.out
        have hS1 := ROT0.out (by omega)
        go_wp2
        all_goals (first | (go_end0; exact ⟨rfl, HFIN.out _ (SYM9.out _ (SYM0.out _ hS1 (by omega)) (by omega))⟩) | exact ⟨rfl, HFIN.out _ (SYM9.out _ (SYM0.out _ hS1 (by omega)) (by omega))⟩)
       ·have D1 : ¬ (((a : Int) + b) / 2 + m - i < b) := by have := HE.out; omega
        have E1 : Aside (SWB enc k (w.alloc (.cells (dat g lb sf sb) (ρ.t 42))) blk off d wr) := HS.out
        have hS1 := ROT0.out (by omega)
        go_wp2
        all_goals (first | (go_end0; exact ⟨rfl, HFIN.out _ (SYM9.out _ (SYM0.out _ hS1 (by omega)) (by omega))⟩) | exact ⟨rfl, HFIN.out _ (SYM9.out _ (SYM0.out _ hS1 (by omega)) (by omega))⟩)
      ·have C1 : ¬ ((a : Int) < i) := by omega
       by_cases D : mid + m - i < b
       ·have D1 : ((a : Int) + b) / 2 + m - i < b := by have := HE.out; omega
        have E1 : Aside (SWB enc k (w.alloc (.cells (dat g lb sf sb) (ρ.t 42))) blk off d wr) := HS.out
        have hS1 := ROT0.out (by omega)
        go_wp2
        all_goals (first | (go_end0; exact ⟨rfl, HFIN.out _ (SYM9.out _ (SYM0.out _ hS1 (by omega)) (by omega))⟩) | exact ⟨rfl, HFIN.out _ (SYM9.out _ (SYM0.out _ hS1 (by omega)) (by omega))⟩)
       ·have D1 : ¬ (((a : Int) + b) / 2 + m - i < b) := by have := HE.out; omega
        have E1 : Aside (SWB enc k (w.alloc (.cells (dat g lb sf sb) (ρ.t 42))) blk off d wr) := HS.out
        have hS1 := ROT0.out (by omega)
        go_wp2
        all_goals (first | (go_end0; exact ⟨rfl, HFIN.out _ (SYM9.out _ (SYM0.out _ hS1 (by omega)) (by omega))⟩) | exact ⟨rfl, HFIN.out _ (SYM9.out _ (SYM0.out _ hS1 (by omega)) (by omega))⟩)
 ·have hgz : ¬ (m : Int) > ((a : Int) + b) / 2 := by omega
  obtain ⟨s0, hs0⟩ : ∃ s0, s0 = a := ⟨_, rfl⟩
  obtain ⟨r0, hr0⟩ : ∃ r0, r0 = m := ⟨_, rfl⟩
  have h0 : (s0 = a ∧ r0 = m ∧ m ≤ mid) ∨ (s0 + b = mid + m ∧ r0 = mid ∧ mid < m) := .inl ⟨hs0, hr0, by omega⟩
  have H0 : Aside _ := h0
  have HRG : Aside _ := sym_range ham hmb hmid h0
  clear h0 hs0 hr0 hmid hgt
  go_enter L.f30, BodyGt.n30_ntmps ρ
  go_wp2
  go_loopw [18, 19] (fun vi vj wr => ∃ (i j : Nat), vi = .int .i64 i ∧ vj = .int .i64 j ∧ s0 ≤ i ∧ i ≤ j ∧ j ≤ r0 ∧ SWB enc k (w.alloc (.cells (dat g lb sf sb) (ρ.t 42))) blk off d wr ∧ (∀ q, s0 ≤ q → q < i → lt d[mid + m - 1 - q]! d[q]! = false) ∧ (∀ q, j ≤ q → q < r0 → lt d[mid + m - 1 - q]! d[q]! = true)) (fun vi vj _ => (intOf vj).toNat - (intOf vi).toNat)
  case atStart => exact ⟨s0, r0, by have h1 := HMID.out; have h2 := H0.out; congr 1; omega, by have h1 := HMID.out; have h2 := H0.out; congr 1; omega, Nat.le_refl _, HRG.out.2.1, Nat.le_refl _, SWB.start HH1.out, fun q h1 h2 => by omega, fun q h1 h2 => by omega⟩
  case round =>
   obtain ⟨i, j, rfl, rfl, hi0, hij, hjb, hS, hl, hr⟩ := hrel
   have c0 := y14q hblk hS 0 (.func (.func g) #[] lb) (by simp)
   have c1 := y14q hblk hS 1 (.func (.func sf) #[] sb) (by simp)
   have HS : Aside _ := hS
   have HL : Aside _ := hl
   have HR : Aside _ := hr
   have hls := fun (x y : Nat) (h1 : x < d.size) (h2 : y < d.size) => hS.less HL1.out rfl x y h1 h2
   have HLS : Aside _ := hls
   clear hS hl hr hls
   have hjm : j ≤ m := Nat.le_trans hjb HRG.out.2.2.1
   by_cases hz : i < j
   ·have hz' : (i : Int) < j := by omega
    obtain ⟨p1, p2, p3, p4⟩ := HRG.out.2.2.2.2 ((i + j) / 2) (by omega) (by omega)
    have hl1 := HLS.out (mid + m - 1 - (i + j) / 2) ((i + j) / 2) (by omega) (by omega)
    rw [show ((mid + m - 1 - (i + j) / 2 : Nat) : Int) = ((a : Int) + b) / 2 + m - 1 - ((i : Int) + j) / 2 by have := HMID.out; omega, show (((i + j) / 2 : Nat) : Int) = ((i : Int) + j) / 2 by omega] at hl1
    have P1 : Aside _ := p1
    have P2 : Aside _ := p2
    have P3 : Aside _ := p3
    have P4 : Aside _ := p4
    clear p1 p2 p3 p4
    cases hv : lt d[mid + m - 1 - (i + j) / 2]! d[(i + j) / 2]! with
    | false =>
     rw [hv] at hl1
     go_wp2_with (go_at_fn g; refine hl1.mono ?_; rintro e w' ⟨rfl, hB⟩)
     go_roundw
     case rel => exact ⟨(i + j) / 2 + 1, j, by go_num, rfl, by omega, by omega, hjb, SWB.below HS.out hB, fun p h1 h2 => (Nat.lt_or_ge p ((i + j) / 2)).elim (fun h => by
      obtain ⟨g1, g2, g3, g4⟩ := HRG.out.2.2.2.2 p h1 (by omega)
      exact sym_low hlt HT1.out HT2.out g1 (by omega) P2.out P3.out (by omega) g4 hv) (fun h => by rw [show p = (i + j) / 2 by omega]; exact hv), HR.out⟩
     case measure => simp [intOf]; omega
    | true =>
     rw [hv] at hl1
     go_wp2_with (go_at_fn g; refine hl1.mono ?_; rintro e w' ⟨rfl, hB⟩)
     go_roundw
     case rel => exact ⟨i, (i + j) / 2, rfl, by go_num, hi0, by omega, by omega, SWB.below HS.out hB, HL.out, fun p h1 h2 => by
      obtain ⟨g1, g2, g3, g4⟩ := HRG.out.2.2.2.2 p (by omega) h2
      exact sym_high hlt HT1.out HT2.out P1.out h1 g2 g3 (by omega) P4.out hv⟩
     case measure => simp [intOf]; omega
   ·obtain rfl : i = j := by omega
    have hz' : ¬ ((i : Int) < i) := by omega
    obtain ⟨⟨v1, v2, v3, v4, v5⟩, cl, cr⟩ := sym_cut hlt ham hmb HMID.out H0.out HT1.out HT2.out hi0 hjb HL.out HR.out
    have CL : Aside _ := cl
    have CR : Aside _ := cr
    clear cl cr
    have hE : ((mid + m - i : Nat) : Int) = ((a : Int) + b) / 2 + m - i := by have := HMID.out; omega
    have hM : ((mid : Nat) : Int) = ((a : Int) + b) / 2 := by have := HMID.out; omega
    have HE : Aside _ := hE
    have HM : Aside _ := hM
    have hHw := SWB.holds HS.out hblk1 HH1.out rfl
    have HHw : Aside _ := hHw
    have halv := sym_halves (lt := lt) (mid := mid) hlt v1 v2 v3 v4 hb (by omega) CL.out CR.out
    have HV : Aside _ := halv
    have HV3 : Aside (m ≤ mid + m - i) := v3
    have HV4 : Aside (mid + m - i ≤ b) := v4
    have HV5 : Aside (i ≤ mid) := v5
    clear hHw halv v3 v4 v5 hE hM
    have sz1 : (rotA d i m (mid + m - i)).size = d.size := rotA_size (by omega) HV3.out (by have := HV4.out; omega)
    have sz2 : (mrgA lt (rotA d i m (mid + m - i)) a i mid).size = d.size := by rw [y100q lt (by omega) HV5.out (by have := HMID.out; omega), sz1]
    have SZ1 : Aside _ := sz1
    have SZ2 : Aside _ := sz2
    clear sz1 sz2
    have calls1 : ∀ W, SWB enc k (w.alloc (.cells (dat g lb sf sb) (ρ.t 42))) blk off (rotA d i m (mid + m - i)) W → a < i → i < mid → Calls P (ρ.f 30) #[.agg (dat g lb sf sb), .int .i64 a, .int .i64 i, .int .i64 (((a : Int) + b) / 2)] W fun e w'' => e = .returned (.tuple #[]) ∧ SWB enc k (w.alloc (.cells (dat g lb sf sb) (ρ.t 42))) blk off (mrgA lt (rotA d i m (mid + m - i)) a i mid) w'' := fun W hW g1 g2 => by
     have := IHH.out a i mid (rotA d i m (mid + m - i)) W (by have := HMID.out; omega) g1 g2 (by rw [SZ1.out]; have := HMID.out; omega) SZ1.out (hW.lessReads HL1.out hblk1 SZ1.out) (hW.holds hblk1 HH1.out SZ1.out) (hW.lt hblk1) (HV.out.2 HS1.out HS2.out).1 (HV.out.2 HS1.out HS2.out).2.1
     rw [HM.out] at this
     exact this.mono fun e w'' h => ⟨h.1, y45q hblk1 hW h.2 (by rw [SZ2.out, SZ1.out])⟩
    have calls2 : ∀ W, SWB enc k (w.alloc (.cells (dat g lb sf sb) (ρ.t 42))) blk off (mrgA lt (rotA d i m (mid + m - i)) a i mid) W → i < m → mid + m - i < b → Calls P (ρ.f 30) #[.agg (dat g lb sf sb), .int .i64 (((a : Int) + b) / 2), .int .i64 (((a : Int) + b) / 2 + m - i), .int .i64 b] W fun e w'' => e = .returned (.tuple #[]) ∧ SWB enc k (w.alloc (.cells (dat g lb sf sb) (ρ.t 42))) blk off (mrgA lt d a m b) w'' := fun W hW g1 g2 => by
     have := IHH.out mid (mid + m - i) b (mrgA lt (rotA d i m (mid + m - i)) a i mid) W (by have := HMID.out; omega) (by omega) g2 (by rw [SZ2.out]; exact hb) SZ2.out (hW.lessReads HL1.out hblk1 SZ2.out) (hW.holds hblk1 HH1.out SZ2.out) (hW.lt hblk1) (HV.out.2 HS1.out HS2.out).2.2.1 (HV.out.2 HS1.out HS2.out).2.2.2
     rw [HM.out, HE.out, HV.out.1] at this
     exact this.mono fun e w'' h => ⟨h.1, y45q hblk1 hW h.2 (by rw [y100q lt (by omega) (by omega) hb, SZ2.out])⟩
    have rotc : i < m → m < mid + m - i → Calls P (ρ.f 42) #[.agg (dat g lb sf sb), .int .i64 i, .int .i64 m, .int .i64 (((a : Int) + b) / 2 + m - i)] wr fun e w'' => e = .returned (.tuple #[]) ∧ SWB enc k (w.alloc (.cells (dat g lb sf sb) (ρ.t 42))) blk off (rotA d i m (mid + m - i)) w'' := fun g1 g2 => by
     have := Sb.rotate LR enc k hk g lb sf sb blk off i m (mid + m - i) d wr HSWP.out HHw.out (SWB.lt HS.out hblk1) g1 g2 (by have := HV4.out; omega) hsz
     rw [HE.out] at this
     exact this.mono fun e w'' h => ⟨h.1, y45q hblk1 HS.out h.2 SZ1.out⟩
    have rot0 : ¬ (i < m ∧ m < mid + m - i) → SWB enc k (w.alloc (.cells (dat g lb sf sb) (ρ.t 42))) blk off (rotA d i m (mid + m - i)) wr := fun g => by
     rw [rotA_id (by omega) HV3.out (by have := HV4.out; omega) g]; exact HS.out
    have sym0 : ∀ W, SWB enc k (w.alloc (.cells (dat g lb sf sb) (ρ.t 42))) blk off (rotA d i m (mid + m - i)) W → ¬ (a < i ∧ i < mid) → SWB enc k (w.alloc (.cells (dat g lb sf sb) (ρ.t 42))) blk off (mrgA lt (rotA d i m (mid + m - i)) a i mid) W := fun W hW g => by
     rw [mrgA_id (by omega) HV5.out (by rw [SZ1.out]; have := HMID.out; omega) g]; exact hW
    have sym9 : ∀ W, SWB enc k (w.alloc (.cells (dat g lb sf sb) (ρ.t 42))) blk off (mrgA lt (rotA d i m (mid + m - i)) a i mid) W → ¬ (mid < mid + m - i ∧ mid + m - i < b) → SWB enc k (w.alloc (.cells (dat g lb sf sb) (ρ.t 42))) blk off (mrgA lt d a m b) W := fun W hW g => by
     have h := HV.out.1
     rw [mrgA_id (d := mrgA lt (rotA d i m (mid + m - i)) a i mid) (by omega) HV4.out (by rw [SZ2.out]; exact hb) g] at h
     rw [← h]; exact hW
    have CALL1 : Aside _ := calls1
    have CALL2 : Aside _ := calls2
    have ROTC : Aside _ := rotc
    have ROT0 : Aside _ := rot0
    have SYM0 : Aside _ := sym0
    have SYM9 : Aside _ := sym9
    clear calls1 calls2 rotc rot0 sym0 sym9
    have hfin : ∀ W, SWB enc k (w.alloc (.cells (dat g lb sf sb) (ρ.t 42))) blk off (mrgA lt d a m b) W → SWB enc k w blk off (mrgA lt d a m b) W := fun W hW => y45q hblk HW1.out hW (y100q lt (by omega) (by omega) hb)
    have HFIN : Aside _ := hfin
    clear hfin
    by_cases A : i < m
    ·have A1 : (i : Int) < m := by omega
     have A2 : ((a : Int) + b) / 2 < ((a : Int) + b) / 2 + m - i := by omega
     by_cases B : i < mid
     ·have B1 : (m : Int) < ((a : Int) + b) / 2 + m - i := by have := HM.out; omega
      have B2 : (i : Int) < ((a : Int) + b) / 2 := by have := HM.out; omega
      by_cases C : a < i
      ·have C1 : (a : Int) < i := by omega
       by_cases D : mid + m - i < b
       ·have D1 : ((a : Int) + b) / 2 + m - i < b := by have := HE.out; omega
        have E1 : Aside (SWB enc k (w.alloc (.cells (dat g lb sf sb) (ρ.t 42))) blk off d wr) := HS.out
        go_wp2_with (first | (go_at_fn (ρ.f 42); refine (ROTC.out (by omega) (by omega)).mono ?_; rintro e w1 ⟨rfl, hS1⟩; have d10 := y14q hblk hS1 0 (.func (.func g) #[] lb) (by simp); have d11 := y14q hblk hS1 1 (.func (.func sf) #[] sb) (by simp)) | (go_at_fn_of (ρ.f 30) (Value.int .i64 (a : Int)); refine (CALL1.out _ hS1 (by omega) (by omega)).mono ?_; rintro e w2 ⟨rfl, hS2⟩; have d20 := y14q hblk hS2 0 (.func (.func g) #[] lb) (by simp); have d21 := y14q hblk hS2 1 (.func (.func sf) #[] sb) (by simp)) | (go_at_fn_of (ρ.f 30) (Value.int .i64 (b : Int)); refine (CALL2.out _ hS2 (by omega) (by omega)).mono ?_; rintro e w3 ⟨rfl, hS3⟩))
        all_goals (first | (go_end0; exact ⟨rfl, HFIN.out _ hS3⟩) | exact ⟨rfl, HFIN.out _ hS3⟩)
       ·have D1 : ¬ (((a : Int) + b) / 2 + m - i < b) := by have := HE.out; omega
        have E1 : Aside (SWB enc k (w.alloc (.cells (dat g lb sf sb) (ρ.t 42))) blk off d wr) := HS.out
        go_wp2_with (first | (go_at_fn (ρ.f 42); refine (ROTC.out (by omega) (by omega)).mono ?_; rintro e w1 ⟨rfl, hS1⟩; have d10 := y14q hblk hS1 0 (.func (.func g) #[] lb) (by simp); have d11 := y14q hblk hS1 1 (.func (.func sf) #[] sb) (by simp)) | (go_at_fn_of (ρ.f 30) (Value.int .i64 (a : Int)); refine (CALL1.out _ hS1 (by omega) (by omega)).mono ?_; rintro e w2 ⟨rfl, hS2⟩; have d20 := y14q hblk hS2 0 (.func (.func g) #[] lb) (by simp); have d21 := y14q hblk hS2 1 (.func (.func sf) #[] sb) (by simp)))
        all_goals (first | (go_end0; exact ⟨rfl, HFIN.out _ (SYM9.out _ hS2 (by omega))⟩) | exact ⟨rfl, HFIN.out _ (SYM9.out _ hS2 (by omega))⟩)
      ·have C1 : ¬ ((a : Int) < i) := by omega
       by_cases D : mid + m - i < b
       ·have D1 : ((a : Int) + b) / 2 + m - i < b := by have := HE.out; omega
        have E1 : Aside (SWB enc k (w.alloc (.cells (dat g lb sf sb) (ρ.t 42))) blk off d wr) := HS.out
        go_wp2_with (first | (go_at_fn (ρ.f 42); refine (ROTC.out (by omega) (by omega)).mono ?_; rintro e w1 ⟨rfl, hS1⟩; have d10 := y14q hblk hS1 0 (.func (.func g) #[] lb) (by simp); have d11 := y14q hblk hS1 1 (.func (.func sf) #[] sb) (by simp)) | (go_at_fn_of (ρ.f 30) (Value.int .i64 (b : Int)); refine (CALL2.out _ (SYM0.out _ hS1 (by omega)) (by omega) (by omega)).mono ?_; rintro e w3 ⟨rfl, hS3⟩))
        all_goals (first | (go_end0; exact ⟨rfl, HFIN.out _ hS3⟩) | exact ⟨rfl, HFIN.out _ hS3⟩)
       ·have D1 : ¬ (((a : Int) + b) / 2 + m - i < b) := by have := HE.out; omega
        have E1 : Aside (SWB enc k (w.alloc (.cells (dat g lb sf sb) (ρ.t 42))) blk off d wr) := HS.out
        go_wp2_with (first | (go_at_fn (ρ.f 42); refine (ROTC.out (by omega) (by omega)).mono ?_; rintro e w1 ⟨rfl, hS1⟩; have d10 := y14q hblk hS1 0 (.func (.func g) #[] lb) (by simp); have d11 := y14q hblk hS1 1 (.func (.func sf) #[] sb) (by simp)))
        all_goals (first | (go_end0; exact ⟨rfl, HFIN.out _ (SYM9.out _ (SYM0.out _ hS1 (by omega)) (by omega))⟩) | exact ⟨rfl, HFIN.out _ (SYM9.out _ (SYM0.out _ hS1 (by omega)) (by omega))⟩)
     ·have B1 : ¬ ((m : Int) < ((a : Int) + b) / 2 + m - i) := by have := HM.out; omega
      have B2 : ¬ ((i : Int) < ((a : Int) + b) / 2) := by have := HM.out; omega
      by_cases C : a < i
      ·have C1 : (a : Int) < i := by omega
       by_cases D : mid + m - i < b
       ·have D1 : ((a : Int) + b) / 2 + m - i < b := by have := HE.out; omega
        have E1 : Aside (SWB enc k (w.alloc (.cells (dat g lb sf sb) (ρ.t 42))) blk off d wr) := HS.out
        have hS1 := ROT0.out (by omega)
        go_wp2_with (first | (go_at_fn_of (ρ.f 30) (Value.int .i64 (b : Int)); refine (CALL2.out _ (SYM0.out _ hS1 (by omega)) (by omega) (by omega)).mono ?_; rintro e w3 ⟨rfl, hS3⟩))
        all_goals (first | (go_end0; exact ⟨rfl, HFIN.out _ hS3⟩) | exact ⟨rfl, HFIN.out _ hS3⟩)
       ·have D1 : ¬ (((a : Int) + b) / 2 + m - i < b) := by have := HE.out; omega
        have E1 : Aside (SWB enc k (w.alloc (.cells (dat g lb sf sb) (ρ.t 42))) blk off d wr) := HS.out
        have hS1 := ROT0.out (by omega)
        go_wp2
        all_goals (first | (go_end0; exact ⟨rfl, HFIN.out _ (SYM9.out _ (SYM0.out _ hS1 (by omega)) (by omega))⟩) | exact ⟨rfl, HFIN.out _ (SYM9.out _ (SYM0.out _ hS1 (by omega)) (by omega))⟩)
      ·have C1 : ¬ ((a : Int) < i) := by omega
       by_cases D : mid + m - i < b
       ·have D1 : ((a : Int) + b) / 2 + m - i < b := by have := HE.out; omega
        have E1 : Aside (SWB enc k (w.alloc (.cells (dat g lb sf sb) (ρ.t 42))) blk off d wr) := HS.out
        have hS1 := ROT0.out (by omega)
        go_wp2_with (first | (go_at_fn_of (ρ.f 30) (Value.int .i64 (b : Int)); refine (CALL2.out _ (SYM0.out _ hS1 (by omega)) (by omega) (by omega)).mono ?_; rintro e w3 ⟨rfl, hS3⟩))
        all_goals (first | (go_end0; exact ⟨rfl, HFIN.out _ hS3⟩) | exact ⟨rfl, HFIN.out _ hS3⟩)
       ·have D1 : ¬ (((a : Int) + b) / 2 + m - i < b) := by have := HE.out; omega
        have E1 : Aside (SWB enc k (w.alloc (.cells (dat g lb sf sb) (ρ.t 42))) blk off d wr) := HS.out
        have hS1 := ROT0.out (by omega)
        go_wp2
        all_goals (first | (go_end0; exact ⟨rfl, HFIN.out _ (SYM9.out _ (SYM0.out _ hS1 (by omega)) (by omega))⟩) | exact ⟨rfl, HFIN.out _ (SYM9.out _ (SYM0.out _ hS1 (by omega)) (by omega))⟩)
    ·have A1 : ¬ ((i : Int) < m) := by omega
     have A2 : ¬ (((a : Int) + b) / 2 < ((a : Int) + b) / 2 + m - i) := by omega
     by_cases B : i < mid
     ·have B1 : (m : Int) < ((a : Int) + b) / 2 + m - i := by have := HM.out; omega
      have B2 : (i : Int) < ((a : Int) + b) / 2 := by have := HM.out; omega
      by_cases C : a < i
      ·have C1 : (a : Int) < i := by omega
       by_cases D : mid + m - i < b
       ·have D1 : ((a : Int) + b) / 2 + m - i < b := by have := HE.out; omega
        have E1 : Aside (SWB enc k (w.alloc (.cells (dat g lb sf sb) (ρ.t 42))) blk off d wr) := HS.out
        have hS1 := ROT0.out (by omega)
        go_wp2_with (first | (go_at_fn_of (ρ.f 30) (Value.int .i64 (a : Int)); refine (CALL1.out _ hS1 (by omega) (by omega)).mono ?_; rintro e w2 ⟨rfl, hS2⟩; have d20 := y14q hblk hS2 0 (.func (.func g) #[] lb) (by simp); have d21 := y14q hblk hS2 1 (.func (.func sf) #[] sb) (by simp)))
        all_goals (first | (go_end0; exact ⟨rfl, HFIN.out _ (SYM9.out _ hS2 (by omega))⟩) | exact ⟨rfl, HFIN.out _ (SYM9.out _ hS2 (by omega))⟩)
       ·have D1 : ¬ (((a : Int) + b) / 2 + m - i < b) := by have := HE.out; omega
        have E1 : Aside (SWB enc k (w.alloc (.cells (dat g lb sf sb) (ρ.t 42))) blk off d wr) := HS.out
        have hS1 := ROT0.out (by omega)
        go_wp2_with (first | (go_at_fn_of (ρ.f 30) (Value.int .i64 (a : Int)); refine (CALL1.out _ hS1 (by omega) (by omega)).mono ?_; rintro e w2 ⟨rfl, hS2⟩; have d20 := y14q hblk hS2 0 (.func (.func g) #[] lb) (by simp); have d21 := y14q hblk hS2 1 (.func (.func sf) #[] sb) (by simp)))
        all_goals (first | (go_end0; exact ⟨rfl, HFIN.out _ (SYM9.out _ hS2 (by omega))⟩) | exact ⟨rfl, HFIN.out _ (SYM9.out _ hS2 (by omega))⟩)
      ·have C1 : ¬ ((a : Int) < i) := by omega
       by_cases D : mid + m - i < b
       ·have D1 : ((a : Int) + b) / 2 + m - i < b := by have := HE.out; omega
        have E1 : Aside (SWB enc k (w.alloc (.cells (dat g lb sf sb) (ρ.t 42))) blk off d wr) := HS.out
        have hS1 := ROT0.out (by omega)
        go_wp2
        all_goals (first | (go_end0; exact ⟨rfl, HFIN.out _ (SYM9.out _ (SYM0.out _ hS1 (by omega)) (by omega))⟩) | exact ⟨rfl, HFIN.out _ (SYM9.out _ (SYM0.out _ hS1 (by omega)) (by omega))⟩)
       ·have D1 : ¬ (((a : Int) + b) / 2 + m - i < b) := by have := HE.out; omega
        have E1 : Aside (SWB enc k (w.alloc (.cells (dat g lb sf sb) (ρ.t 42))) blk off d wr) := HS.out
        have hS1 := ROT0.out (by omega)
        go_wp2
        all_goals (first | (go_end0; exact ⟨rfl, HFIN.out _ (SYM9.out _ (SYM0.out _ hS1 (by omega)) (by omega))⟩) | exact ⟨rfl, HFIN.out _ (SYM9.out _ (SYM0.out _ hS1 (by omega)) (by omega))⟩)
     ·have B1 : ¬ ((m : Int) < ((a : Int) + b) / 2 + m - i) := by have := HM.out; omega
      have B2 : ¬ ((i : Int) < ((a : Int) + b) / 2) := by have := HM.out; omega
      by_cases C : a < i
      ·have C1 : (a : Int) < i := by omega
       by_cases D : mid + m - i < b
       ·have D1 : ((a : Int) + b) / 2 + m - i < b := by have := HE.out; omega
        have E1 : Aside (SWB enc k (w.alloc (.cells (dat g lb sf sb) (ρ.t 42))) blk off d wr) := HS.out
        have hS1 := ROT0.out (by omega)
        go_wp2
        all_goals (first | (go_end0; exact ⟨rfl, HFIN.out _ (SYM9.out _ (SYM0.out _ hS1 (by omega)) (by omega))⟩) | exact ⟨rfl, HFIN.out _ (SYM9.out _ (SYM0.out _ hS1 (by omega)) (by omega))⟩)
       ·have D1 : ¬ (((a : Int) + b) / 2 + m - i < b) := by have := HE.out; omega
        have E1 : Aside (SWB enc k (w.alloc (.cells (dat g lb sf sb) (ρ.t 42))) blk off d wr) := HS.out
        have hS1 := ROT0.out (by omega)
        go_wp2
        all_goals (first | (go_end0; exact ⟨rfl, HFIN.out _ (SYM9.out _ (SYM0.out _ hS1 (by omega)) (by omega))⟩) | exact ⟨rfl, HFIN.out _ (SYM9.out _ (SYM0.out _ hS1 (by omega)) (by omega))⟩)
      ·have C1 : ¬ ((a : Int) < i) := by omega
       by_cases D : mid + m - i < b
       ·have D1 : ((a : Int) + b) / 2 + m - i < b := by have := HE.out; omega
        have E1 : Aside (SWB enc k (w.alloc (.cells (dat g lb sf sb) (ρ.t 42))) blk off d wr) := HS.out
        have hS1 := ROT0.out (by omega)
        go_wp2
        all_goals (first | (go_end0; exact ⟨rfl, HFIN.out _ (SYM9.out _ (SYM0.out _ hS1 (by omega)) (by omega))⟩) | exact ⟨rfl, HFIN.out _ (SYM9.out _ (SYM0.out _ hS1 (by omega)) (by omega))⟩)
       ·have D1 : ¬ (((a : Int) + b) / 2 + m - i < b) := by have := HE.out; omega
        have E1 : Aside (SWB enc k (w.alloc (.cells (dat g lb sf sb) (ρ.t 42))) blk off d wr) := HS.out
        have hS1 := ROT0.out (by omega)
        go_wp2
        all_goals (first | (go_end0; exact ⟨rfl, HFIN.out _ (SYM9.out _ (SYM0.out _ hS1 (by omega)) (by omega))⟩) | exact ⟨rfl, HFIN.out _ (SYM9.out _ (SYM0.out _ hS1 (by omega)) (by omega))⟩)
end Go.Proofs
end
section
namespace Go.Proofs
open Go.Shelf Go.RowKit Go.Lib Go.Sort Go.Ev
variable {P : Program} {ρ : Ren} {α : Type} [Inhabited α]
theorem Sb.symMerge {n0 : Nat} (L : LaysGt.n30 P ρ) (enc : α → List Value) (k : Nat) (hk : ∀ x, (enc x).length = k) (lt : α → α → Bool) (hlt : Weak lt) (g : Nat) (lb : Array Value) (sf : Nat) (sb : Array Value) (blk off : Nat)
  (eg : ∀ args w, (callFunc g args).run P w = .ok (.enter g args) w) (hsz : n0 < 4611686018427387904) (hswap : SwapSwapsK P sf sb enc k blk off n0) :
  ∀ (n a m b : Nat) (d : Array α) (w : World), b - a ≤ n → d.size = n0 → LessB P g lb enc k lt blk off n0 w → HoldsK enc k w blk off d → blk < w.heap.size → a < m → m < b → b ≤ n0 → Srt lt (seg d a m) → Srt lt (seg d m b) →
  Calls P (ρ.f 30) #[.agg (dat g lb sf sb), .int .i64 a, .int .i64 m, .int .i64 b] w fun e w' => e = .returned (.tuple #[]) ∧ SWB enc k w blk off (mrgA lt d a m b) w' := by
 intro n
 induction n with
 | zero => intro a m b d w h1 h2 h3 h4 h5 h6 h7; omega
 | succ n ih =>
  intro a m b d w h1 h2 hless hH hblk ham hmb hb hs1 hs2
  subst h2
  by_cases e1 : m - a = 1
  ·exact Sb.symMerge_one L enc k hk lt hlt g lb sf sb blk off a m b (by omega) d w eg hless hswap hH hblk hmb hb hsz hs2
  ·by_cases e2 : b - m = 1
   ·exact Sb.symMerge_last L enc k hk lt hlt g lb sf sb blk off a m b (by omega) d w eg hless hswap hH hblk ham e1 hb hsz hs1
   ·refine Sb.symMerge_many L enc k hk lt hlt g lb sf sb blk off a m b ham d w eg hless hswap hH hblk hmb e1 e2 hb hsz hs1 hs2 ?_
    intro a' m' b' d' w' g1 g2 g3 g4 g5 g6 g7 g8 g9 g10
    exact ih a' m' b' d' w' (by omega) g5 g6 g7 g8 g2 g3 (by omega) g9 g10
end Go.Proofs
end
section
namespace Go.Proofs
open Go.Shelf Go.RowKit Go.Lib Go.Sort Go.Ev
variable {P : Program} {ρ : Ren} {α : Type} [Inhabited α]
set_option maxHeartbeats 4000000 in
set_option maxRecDepth 100000 in
theorem Sb.insertion (L : LaysGt.n29 P ρ) (enc : α → List Value) (k : Nat) (hk : ∀ x, (enc x).length = k) (lt : α → α → Bool) (g : Nat) (lb : Array Value) (sf : Nat) (sb : Array Value) (blk off a b : Nat) (d : Array α) (w : World)
  (eg : ∀ args w, (callFunc g args).run P w = .ok (.enter g args) w) (hless : LessB P g lb enc k lt blk off d.size w) (hswap : SwapSwapsK P sf sb enc k blk off d.size)
  (hH : HoldsK enc k w blk off d) (hblk : blk < w.heap.size) (hab : a ≤ b) (hb : b ≤ d.size) (hsz : d.size < 4611686018427387904) :
  Calls P (ρ.f 29) #[.agg (dat g lb sf sb), .int .i64 a, .int .i64 b] w fun e w' => e = .returned (.tuple #[]) ∧ SWB enc k w blk off (Sort.insertionSort lt d a b) w' := by
 have mixed := L.mixed; have t0 := L.t0; have a0 := L.a0; have z0 := L.z0; have v0 := L.v0; have t3 := L.t3; have a3 := L.a3; have z3 := L.z3; have v3 := L.v3; have t4 := L.t4; have a4 := L.a4; have z4 := L.z4; have v4 := L.v4; have t26 := L.t26; have a26 := L.a26; have z26 := L.z26; have v26 := L.v26; have t38 := L.t38; have a38 := L.a38; have z38 := L.z38; have v38 := L.v38; have t42 := L.t42; have a42 := L.a42; have z42 := L.z42; have v42 := L.v42
 have u42 := run_underlying L.t42
 have hW1 : SWB enc k w blk off d (w.alloc (.cells (dat g lb sf sb) (ρ.t 42))) := (SWB.start hH).alloc _
 have hH1 : HoldsK enc k (w.alloc (.cells (dat g lb sf sb) (ρ.t 42))) blk off d := hW1.holds hblk hH rfl
 have hblk1 : blk < (w.alloc (.cells (dat g lb sf sb) (ρ.t 42))).heap.size := hW1.lt hblk
 have hL1 : LessB P g lb enc k lt blk off d.size (w.alloc (.cells (dat g lb sf sb) (ρ.t 42))) := hW1.lessReads hless hblk rfl
 have HW1 : Aside _ := hW1
 have HH1 : Aside _ := hH1
 have HL1 : Aside _ := hL1
 have HSWP : Aside _ := hswap
 clear hW1 hH1 hL1 hswap hless hH
 go_enter L.f29, BodyGt.n29_ntmps ρ
 go_wp2
 go_loopw [6] (fun vi wr => ∃ (i : Nat) (dk : Array α), vi = .int .i64 i ∧ a < i ∧ i ≤ b + 1 ∧ dk.size = d.size ∧ SWB enc k (w.alloc (.cells (dat g lb sf sb) (ρ.t 42))) blk off dk wr ∧ insOuter lt a b i dk = insOuter lt a b (a + 1) d) (fun vi _ => b + 1 - (intOf vi).toNat)
 case atStart => exact ⟨a + 1, d, by go_num, by omega, by omega, rfl, SWB.start HH1.out, rfl⟩
 case round =>
  obtain ⟨i, dk, rfl, hai, hib, hsk, hS, hO⟩ := hrel
  have HO : Aside _ := hO
  have HS : Aside _ := hS
  clear hO hS
  by_cases hz : i < b
  ·have hz' : (i : Int) < b := by omega
   go_wp2
   go_loopw [7] (fun vj wr2 => ∃ (j : Nat) (dj : Array α), vj = .int .i64 j ∧ a ≤ j ∧ j ≤ i ∧ dj.size = d.size ∧ SWB enc k (w.alloc (.cells (dat g lb sf sb) (ρ.t 42))) blk off dj wr2 ∧ insInner lt a j dj = insInner lt a i dk) (fun vj _ => (intOf vj).toNat)
   case atStart => exact ⟨i, dk, rfl, by omega, Nat.le_refl _, hsk, HS.out, rfl⟩
   case round =>
    obtain ⟨j, dj, rfl, haj, hji, hsj, hS2, hI⟩ := hrel
    have c0 := y14q hblk hS2 0 (.func (.func g) #[] lb) (by simp)
    have c1 := y14q hblk hS2 1 (.func (.func sf) #[] sb) (by simp)
    have HI : Aside _ := hI
    have HS2 : Aside _ := hS2
    clear hI hS2
    have out : (j ≤ a ∨ lt dj[j]! dj[j - 1]! = false) → ∀ W, SWB enc k (w.alloc (.cells (dat g lb sf sb) (ρ.t 42))) blk off dj W → ∃ i' dk', Value.int .i64 ((i : Int) + 1) = .int .i64 (i' : Nat) ∧ a < i' ∧ i' ≤ b + 1 ∧ dk'.size = d.size ∧
      SWB enc k (w.alloc (.cells (dat g lb sf sb) (ρ.t 42))) blk off dk' W ∧ insOuter lt a b i' dk' = insOuter lt a b (a + 1) d := fun hs W hW =>
     ⟨i + 1, dj, by go_num, by omega, by omega, hsj, hW, by rw [← HO.out, insOuter_go _ _ _ _ _ hz, ← HI.out, insInner_stop _ _ _ _ hs]⟩
    have OUT : Aside _ := out
    clear out
    by_cases hja : a < j
    ·have hja' : (j : Int) > a := by omega
     have hl := SWB.less HS2.out HL1.out hsj j (j - 1) (by omega) (by omega)
     rw [show (((j - 1 : Nat) : Int)) = (j : Int) - 1 by omega] at hl
     cases hlv : lt dj[j]! dj[j - 1]! with
     | true =>
      rw [hlv] at hl
      have next : ∀ w', Below wr.heap.size wr w' → (w'.cell? ⟨w.heap.size, 0, none⟩ = some (.func (.func g) #[] lb) ∧ w'.cell? ⟨w.heap.size, 1, none⟩ = some (.func (.func sf) #[] sb)) ∧ (callFunc sf (#[.int .i64 j, .int .i64 ((j : Int) - 1)] ++ sb)).run P w' = .ok (.value (.tuple #[])) ((w'.setCells blk (off + j * k) (enc dj[j - 1]!)).setCells blk (off + (j - 1) * k) (enc dj[j]!)) ∧ SWB enc k (w.alloc (.cells (dat g lb sf sb) (ρ.t 42))) blk off (swp dj j (j - 1)) ((w'.setCells blk (off + j * k) (enc dj[j - 1]!)).setCells blk (off + (j - 1) * k) (enc dj[j]!)) := fun w' hB => by
       have hS3 := SWB.below HS2.out hB
       have hs := HSWP.out w' dj (hS3.holds hblk1 HH1.out hsj) hsj j (j - 1) (by omega) (by omega)
       rw [show (((j - 1 : Nat) : Int)) = (j : Int) - 1 by omega] at hs
       exact ⟨⟨y14q hblk hS3 0 (.func (.func g) #[] lb) (by simp), y14q hblk hS3 1 (.func (.func sf) #[] sb) (by simp)⟩, hs, SWB.swap hS3 hk hblk1 j (j - 1) (by omega) (by omega)⟩
      have NEXT : Aside _ := next
      clear next
      go_wp2_with (go_at_fn g; refine hl.mono ?_; rintro e w' ⟨rfl, hB⟩; have d0 := (NEXT.out w' hB).1.1; have d1 := (NEXT.out w' hB).1.2; have hs := (NEXT.out w' hB).2.1; have HS3 : Aside _ := (NEXT.out w' hB).2.2; clear hB)
      go_roundw
      case rel => exact ⟨j - 1, swp dj j (j - 1), by go_num, by omega, by omega, by rw [size_swp]; exact hsj, HS3.out, by rw [← HI.out, insInner_go lt a j dj hja hlv]⟩
      case measure => simp [intOf]; omega
     | false =>
      rw [hlv] at hl
      go_wp2_with (go_at_fn g; refine hl.mono ?_; rintro e w' ⟨rfl, hB⟩)
      go_roundw
      case rel => exact OUT.out (Or.inr hlv) _ (SWB.below HS2.out hB)
      case measure => simp [intOf]; omega
    ·have hja' : ¬ ((j : Int) > a) := by omega
     go_wp2
     go_roundw
     case rel => exact OUT.out (Or.inl (by omega)) _ HS2.out
     case measure => simp [intOf]; omega
  ·have hz' : ¬ ((i : Int) < b) := by omega
   go_wp2
   go_end0
   refine ⟨rfl, ?_⟩
   unfold Sort.insertionSort
   rw [← HO.out, insOuter_stop _ _ _ _ _ hz]
   exact y45q hblk HW1.out HS.out hsk
end Go.Proofs
end
section
namespace Go.Ev
open Go.Shelf Go.RowKit Go.Lib Go.Sort Go.Proofs
variable {α : Type} {lt : α → α → Bool}
inductive Bl (lt : α → α → Bool) (bs : Nat) : List α → List α → Prop
 | last (l : List α) (h : l.length ≤ bs) : Bl lt bs l (stab lt l)
 | more (X Y0 Y : List α) (h : X.length = bs) (r : Bl lt bs Y0 Y) : Bl lt bs (X ++ Y0) (stab lt X ++ Y)
theorem Bl.len {bs : Nat} {l r : List α} (h : Bl lt bs l r) : r.length = l.length := by
 induction h with
 | last l h => exact y26q l
 | more X Y0 Y h r ih => simp [y26q, ih]
theorem Bl.nil {bs : Nat} {r : List α} (h : Bl lt bs [] r) : r = [] := List.eq_nil_of_length_eq_zero (by rw [h.len]; rfl)
theorem stab_nil : stab lt ([] : List α) = [] := List.eq_nil_of_length_eq_zero (by rw [y26q]; rfl)
theorem Bl.small {bs : Nat} {l r : List α} (h : Bl lt bs l r) (hl : l.length ≤ bs) : r = stab lt l := by
 cases h with
 | last _ _ => rfl
 | more X Y0 Y hx hr =>
  have : Y0 = [] := List.eq_nil_of_length_eq_zero (by simp at hl; omega)
  subst this
  rw [hr.nil]; simp
theorem Bl.split {bs : Nat} {l r : List α} (h : Bl lt bs l r) (hl : bs ≤ l.length) : ∃ X Y0 Y, X.length = bs ∧ l = X ++ Y0 ∧ r = stab lt X ++ Y ∧ Bl lt bs Y0 Y := by
 cases h with
 | last l h => exact ⟨l, [], [], by omega, by simp, by simp, by have := Bl.last (lt := lt) (bs := bs) [] (by simp); rwa [stab_nil] at this⟩
 | more X Y0 Y hx hr => exact ⟨X, Y0, Y, hx, rfl, rfl, hr⟩
theorem Bl.two (hlt : Weak lt) {bs : Nat} {l r : List α} (h : Bl lt bs l r) (hl : 2 * bs ≤ l.length) :
  ∃ X X2 Y0 Y, X.length = bs ∧ X2.length = bs ∧ l = (X ++ X2) ++ Y0 ∧ r = stab lt X ++ (stab lt X2 ++ Y) ∧ mrg lt (stab lt X) (stab lt X2) = stab lt (X ++ X2) ∧ Bl lt bs Y0 Y := by
 obtain ⟨X, Y0, Y, h1, rfl, rfl, h2⟩ := h.split (by omega)
 obtain ⟨X2, Z0, Z, h3, rfl, rfl, h4⟩ := h2.split (by simp at hl; omega)
 exact ⟨X, X2, Z0, Z, h1, h3, by simp, rfl, (stab_append hlt X X2).symm, h4⟩
theorem Bl.tail (hlt : Weak lt) {bs : Nat} {l r : List α} (h : Bl lt bs l r) (hl : bs < l.length) (h2 : l.length < 2 * bs) :
  ∃ X Y0, X.length = bs ∧ 0 < Y0.length ∧ l = X ++ Y0 ∧ r = stab lt X ++ stab lt Y0 ∧ mrg lt (stab lt X) (stab lt Y0) = stab lt l := by
 obtain ⟨X, Y0, Y, h1, rfl, rfl, h3⟩ := h.split (by omega)
 rw [h3.small (by simp at h2; omega)]
 exact ⟨X, Y0, h1, by simp at hl; omega, rfl, rfl, (stab_append hlt X Y0).symm⟩
theorem seg_of {d : Array α} {P X Q : List α} (h : d.toList = P ++ (X ++ Q)) {a b : Nat} (ha : a = P.length) (hb : b = P.length + X.length) : seg d a b = X := by
 subst ha; subst hb; simp [seg, h, List.take_append, List.drop_append]
theorem mrgA_of [Inhabited α] {d : Array α} {P X Y Q : List α} (h : d.toList = P ++ (X ++ (Y ++ Q))) {a m b : Nat} (ha : a = P.length) (hm : m = P.length + X.length) (hb : b = P.length + X.length + Y.length) : (mrgA lt d a m b).toList = P ++ (mrg lt X Y ++ Q) := y116q lt h ha hm hb
variable [Inhabited α]
theorem insInner_list (h : Weak lt) {P : List α} (x : α) (a : Nat) (ha : a = P.length) : ∀ (n : Nat) (A R : List α) (d : Array α) (j : Nat), A.length = n → d.toList = P ++ (A ++ x :: R) → j = P.length + A.length → Srt lt A →
  (Sort.insInner lt a j d).toList = P ++ (mrg lt A [x] ++ R) := by
 intro n
 induction n with
 | zero =>
  intro A R d j hA hd hj _
  have := List.eq_nil_of_length_eq_zero hA; subst this
  rw [insInner_stop lt a j d (.inl (by simp at hj; omega)), hd, nil_mrg]; simp
 | succ n ih =>
  intro A R d j hA hd hj hs
  obtain ⟨A', y, rfl⟩ : ∃ A' y, A = A' ++ [y] := ⟨A.dropLast, A.getLast (by intro e; subst e; simp at hA), (List.dropLast_concat_getLast _).symm⟩
  have gx : d[j]! = x := by
   have : d.toList = (P ++ (A' ++ [y])) ++ x :: R := by rw [hd]; simp
   have := arr_get this
   rwa [show (P ++ (A' ++ [y])).length = j by rw [hj]; simp] at this
  have gy : d[j - 1]! = y := by
   have : d.toList = (P ++ A') ++ y :: (x :: R) := by rw [hd]; simp
   have := arr_get this
   rwa [show (P ++ A').length = j - 1 by rw [hj]; simp; try omega] at this
  have hs' : Srt lt A' ∧ ∀ b ∈ A', lt y b = false := by
   unfold Srt at hs ⊢
   rw [List.pairwise_append] at hs
   exact ⟨hs.1, fun b hb => hs.2.2 b hb y (by simp)⟩
  cases hv : lt x y with
  | true =>
   rw [insInner_go lt a j d (by rw [hj, ha]; simp) (by rw [gx, gy]; exact hv)]
   have e := swp_list' (d := d) (P := P ++ A') (M := []) (Q := R) (x := y) (y := x) (by rw [hd]; simp) (i := j - 1) (j := j) (by rw [hj]; simp; try omega) (by rw [hj]; simp; try omega)
   rw [ih A' (y :: R) (swp d j (j - 1)) (j - 1) (by simp at hA; omega) (by rw [e]; simp) (by rw [hj]; simp; try omega) hs'.1]
   have := mrg_split h A' [x] [y] [] (by simp) (by simp; exact hv)
   simp only [List.append_nil] at this
   rw [this, y123q]; simp
  | false =>
   rw [insInner_stop lt a j d (.inr (by rw [gx, gy]; exact hv)), hd]
   have := mrg_one h x (A' ++ [y]) [] (fun b hb => by
    rcases List.mem_append.1 hb with hb | hb
    ·cases hc : lt x b with
     | false => rfl
     | true => have := h.left hc (hs'.2 b hb); rw [this] at hv; cases hv
    ·simp at hb; subst hb; exact hv) (by simp)
   simp only [List.append_nil] at this
   rw [this]; simp
theorem insOuter_list (h : Weak lt) {P Q : List α} (a b : Nat) (ha : a = P.length) : ∀ (X2 X1 : List α) (d : Array α) (i : Nat), d.toList = P ++ (stab lt X1 ++ (X2 ++ Q)) → i = P.length + X1.length → b = P.length + X1.length + X2.length →
  (Sort.insOuter lt a b i d).toList = P ++ (stab lt (X1 ++ X2) ++ Q) := by
 intro X2
 induction X2 with
 | nil => intro X1 d i hd hi hb; rw [insOuter_stop lt a b i d (by simp at hb; omega), hd]; simp
 | cons x X2 ih =>
  intro X1 d i hd hi hb
  rw [insOuter_go lt a b i d (by simp at hb; omega)]
  have e := insInner_list h x a ha (stab lt X1).length (stab lt X1) (X2 ++ Q) d i rfl (by rw [hd]; simp) (by rw [hi, y26q]) (y103q h X1)
  have e2 : mrg lt (stab lt X1) [x] = stab lt (X1 ++ [x]) := by rw [stab_append h, stab_one]
  rw [e2] at e
  rw [ih (X1 ++ [x]) _ (i + 1) e (by rw [hi]; simp; omega) (by rw [hb]; simp; omega)]
  simp
theorem ins_list (h : Weak lt) {P X Q : List α} {d : Array α} {a b : Nat} (hd : d.toList = P ++ (X ++ Q)) (ha : a = P.length) (hb : b = P.length + X.length) : (Sort.insertionSort lt d a b).toList = P ++ (stab lt X ++ Q) := by
 unfold Sort.insertionSort
 cases X with
 | nil => rw [insOuter_stop lt a b (a + 1) d (by simp at hb; omega), hd, stab_nil]
 | cons x X =>
  have := insOuter_list (lt := lt) (Q := Q) h a b ha X [x] d (a + 1) (by rw [hd, stab_one]; simp) (by rw [ha]; simp) (by rw [hb]; simp; omega)
  rw [this]; simp
def Re1 (lt : α → α → Bool) (bs : Nat) (l0 : List α) (a : Nat) (d : Array α) : Prop :=
 ∃ P R0, d.toList = P ++ R0 ∧ P.length = a ∧ ∀ R, Bl lt bs R0 R → Bl lt bs l0 (P ++ R)
theorem re1_start (bs : Nat) (d : Array α) : Re1 lt bs d.toList 0 d := ⟨[], d.toList, rfl, rfl, fun R h => h⟩
theorem ins_size (h : Weak lt) {d : Array α} {a b : Nat} (h1 : a ≤ b) (h2 : b ≤ d.size) : (Sort.insertionSort lt d a b).size = d.size := by
 have e : d.toList = d.toList.take a ++ ((d.toList.take b).drop a ++ d.toList.drop b) := by
  have e1 : (d.toList.take b).take a = d.toList.take a := by rw [List.take_take]; congr 1; omega
  rw [← List.append_assoc, ← e1, List.take_append_drop, List.take_append_drop]
 have l1 : (d.toList.take a).length = a := by simp; try omega
 have l2 : ((d.toList.take b).drop a).length = b - a := by simp; try omega
 have := ins_list (a := a) (b := b) h e l1.symm (by rw [l1, l2]; omega)
 rw [← Array.length_toList, this, ← Array.length_toList]
 conv => rhs; rw [e]
 simp only [List.length_append, y26q]
theorem re1_step (hlt : Weak lt) {bs : Nat} {l0 : List α} {a : Nat} {d : Array α} (h : Re1 lt bs l0 a d) (hb : a + bs ≤ d.size) : Re1 lt bs l0 (a + bs) (Sort.insertionSort lt d a (a + bs)) := by
 obtain ⟨P, R0, h1, h2, h3⟩ := h
 have hl : R0.length = d.size - a := by rw [← Array.length_toList, h1]; simp; omega
 have e : R0 = R0.take bs ++ R0.drop bs := (List.take_append_drop _ _).symm
 have hX : (R0.take bs).length = bs := by simp; omega
 refine ⟨P ++ stab lt (R0.take bs), R0.drop bs, ?_, by simp [y26q]; omega, fun R hR => ?_⟩
 ·rw [ins_list hlt (P := P) (X := R0.take bs) (Q := R0.drop bs) (by rw [← e]; exact h1) h2.symm (by rw [hX]; omega)]; simp
 ·have := h3 (stab lt (R0.take bs) ++ R) (by (conv => arg 3; rw [e]); exact Bl.more _ _ _ hX hR)
  simpa using this
theorem re1_end (hlt : Weak lt) {bs : Nat} {l0 : List α} {a : Nat} {d : Array α} (h : Re1 lt bs l0 a d) (hb : ¬ a + bs ≤ d.size) : Bl lt bs l0 (Sort.insertionSort lt d a d.size).toList := by
 obtain ⟨P, R0, h1, h2, h3⟩ := h
 have hl : d.size = P.length + R0.length := by rw [← Array.length_toList, h1]; simp
 rw [ins_list hlt (P := P) (X := R0) (Q := []) (by simpa using h1) h2.symm hl]
 have := h3 _ (Bl.last R0 (by omega))
 simpa using this
def Re2 (lt : α → α → Bool) (bs : Nat) (l0 : List α) (a : Nat) (d : Array α) : Prop :=
 ∃ P L0 R, d.toList = P ++ R ∧ P.length = a ∧ Bl lt bs L0 R ∧ ∀ R', Bl lt (2 * bs) L0 R' → Bl lt (2 * bs) l0 (P ++ R')
theorem re2_start {bs : Nat} {l0 : List α} {d : Array α} (h : Bl lt bs l0 d.toList) : Re2 lt bs l0 0 d := ⟨[], l0, d.toList, rfl, rfl, h, fun R h => h⟩
theorem re2_step (hlt : Weak lt) {bs : Nat} {l0 : List α} {a : Nat} {d : Array α} (h : Re2 lt bs l0 a d) (hb : a + 2 * bs ≤ d.size) :
  Srt lt (seg d a (a + bs)) ∧ Srt lt (seg d (a + bs) (a + 2 * bs)) ∧ Re2 lt bs l0 (a + 2 * bs) (mrgA lt d a (a + bs) (a + 2 * bs)) := by
 obtain ⟨P, L0, R, h1, h2, h3, h4⟩ := h
 have hl : d.size = P.length + R.length := by rw [← Array.length_toList, h1]; simp
 obtain ⟨X, X2, Y0, Y, e1, e2, rfl, rfl, e3, e4⟩ := h3.two hlt (by rw [← h3.len]; omega)
 have l1 : (stab lt X).length = bs := by rw [y26q, e1]
 have l2 : (stab lt X2).length = bs := by rw [y26q, e2]
 refine ⟨?_, ?_, P ++ stab lt (X ++ X2), Y0, Y, ?_, ?_, e4, fun R' hR => ?_⟩
 ·rw [seg_of (X := stab lt X) (Q := stab lt X2 ++ Y) h1 h2.symm (by rw [l1, h2])]; exact y103q hlt X
 ·rw [seg_of (P := P ++ stab lt X) (X := stab lt X2) (Q := Y) (by rw [h1]; simp) (by simp [l1, h2]) (by simp [l1, l2, h2]; omega)]; exact y103q hlt X2
 ·rw [mrgA_of h1 h2.symm (by rw [l1, h2]) (by rw [l1, l2, h2]; omega), e3]; simp
 ·simp [y26q, e1, e2, h2]; omega
 ·have := h4 (stab lt (X ++ X2) ++ R') (Bl.more _ _ _ (by simp [e1, e2]; omega) hR)
  simpa using this
theorem re2_end (hlt : Weak lt) {bs : Nat} {l0 : List α} {a : Nat} {d : Array α} (h : Re2 lt bs l0 a d) (hb : ¬ a + 2 * bs ≤ d.size) (hm : a + bs < d.size) :
  Srt lt (seg d a (a + bs)) ∧ Srt lt (seg d (a + bs) d.size) ∧ Bl lt (2 * bs) l0 (mrgA lt d a (a + bs) d.size).toList := by
 obtain ⟨P, L0, R, h1, h2, h3, h4⟩ := h
 have hl : d.size = P.length + R.length := by rw [← Array.length_toList, h1]; simp
 have h5 := h3.len
 obtain ⟨X, Y0, e1, e2, rfl, rfl, e3⟩ := h3.tail hlt (by omega) (by omega)
 have l1 : (stab lt X).length = bs := by rw [y26q, e1]
 have l2 : (stab lt Y0).length = d.size - a - bs := by simp [l1] at hl; omega
 refine ⟨?_, ?_, ?_⟩
 ·rw [seg_of (X := stab lt X) (Q := stab lt Y0) h1 h2.symm (by rw [l1, h2])]; exact y103q hlt X
 ·rw [seg_of (P := P ++ stab lt X) (X := stab lt Y0) (Q := []) (by rw [h1]; simp) (by simp [l1, h2]) (by simp [l1, h2, l2]; omega)]; exact y103q hlt Y0
 ·rw [mrgA_of (P := P) (X := stab lt X) (Y := stab lt Y0) (Q := []) (by rw [h1]; simp) h2.symm (by rw [l1, h2]) (by rw [l1, l2, h2]; omega), e3]
  have := h4 _ (Bl.last (X ++ Y0) (by omega))
  simpa using this
theorem re2_done {bs : Nat} {l0 : List α} {a : Nat} {d : Array α} (h : Re2 lt bs l0 a d) (hm : ¬ a + bs < d.size) : Bl lt (2 * bs) l0 d.toList := by
 obtain ⟨P, L0, R, h1, h2, h3, h4⟩ := h
 have hl : d.size = P.length + R.length := by rw [← Array.length_toList, h1]; simp
 have h5 := h3.len
 rw [h3.small (by omega)] at h1
 rw [h1]
 exact h4 _ (Bl.last L0 (by omega))
end Go.Ev
end
