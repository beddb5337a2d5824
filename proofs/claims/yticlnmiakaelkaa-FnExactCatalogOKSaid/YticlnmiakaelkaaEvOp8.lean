/- Literals of slices and structs, closures, parts of tuples. -/
import Derived.Test.YticlnmiakaelkaaEvOp7
set_option linter.unusedSimpArgs false
set_option linter.unusedVariables false
namespace Go.Ev
open Go.RowKit (Below)

theorem asVal_cells {m : St} {t : Ty} {x : t.den} {cs : List Value} {v : Value} (h : Val m.w m.G t x cs) (ha : AsVal t cs v) : v.cells = cs.toArray := by
  unfold AsVal at ha
  cases hg : t.isAgg with
  | true => simp only [hg] at ha; subst ha; rfl
  | false =>
    simp only [hg] at ha
    subst ha
    have he := Val.enc (m := m) h
    cases hE : enc t x [] with
    | nil => rw [hE] at he; exact absurd he (by simp [R2])
    | cons a l => rw [hE] at he; exact he.1.oneCell.2

theorem flatMap_piece {sz : Nat} : ∀ (vs : List Value), (∀ v ∈ vs, v.cells.size = sz) → ∀ j v, vs[j]? = some v → (((vs.flatMap fun v => v.cells.toList).drop (j * sz)).take sz) = v.cells.toList
  | [], _, j, v, h => by simp at h
  | u :: vs, hv, 0, v, h => by
    simp only [List.getElem?_cons_zero, Option.some.injEq] at h
    subst h
    have := hv u List.mem_cons_self
    rw [List.flatMap_cons, Nat.zero_mul, List.drop_zero, List.take_append_of_le_length (by simp [this]), List.take_of_length_le (by simp [this])]
  | u :: vs, hv, j + 1, v, h => by
    have := hv u List.mem_cons_self
    have e : (j + 1) * sz = u.cells.toList.length + j * sz := by rw [Array.length_toList, this, Nat.add_mul, Nat.one_mul, Nat.add_comm]
    rw [List.flatMap_cons, e, ← List.drop_drop, List.drop_left]
    exact flatMap_piece vs (fun v h => hv v (List.mem_cons_of_mem _ h)) j v (by simpa using h)

section
variable {P : Program} {w0 : World} {G0 : Nat → Prop} {N : Nat} {F : List (Nat × Obj)} {m : St} {e : Env} {a : Act} {Γ : Tab} {ρ : Type} {os : List (Nat × Obj)}

theorem elems_sound {t : Ty} (hR : Rel w0 G0 N F m e a.tmps) : ∀ (l : List (Nat × Operand)) (n : Nat) (xs : List t.den), evElems t e n l = some xs →
    ∃ vs : List Value, (l.map fun x => (x.1, a.eval x.2)) = (vs.zipIdx n).map (fun x => (x.2, x.1)) ∧ vs.length = xs.length ∧ l.length = xs.length ∧
      ∀ j, j < xs.length → ∃ cs v, vs[j]? = some v ∧ v.cells = cs.toArray ∧ Val m.w m.G t (xs.getD j t.zero) cs
  | [], n, xs, h => by
    simp only [evElems, Option.some.injEq] at h
    subst h
    exact ⟨[], rfl, rfl, rfl, fun j hj => absurd hj (by simp)⟩
  | (i, o) :: r, n, xs, h => by
    simp only [evElems] at h
    cases hi : Nat.beq i n with
    | false => simp [hi] at h
    | true =>
      have hin := Nat.eq_of_beq_eq_true hi
      subst hin
      simp only [hi] at h
      cases hv : e.val o with
      | none => simp [hv] at h
      | some s =>
        simp only [hv] at h
        cases hd : decAll true e.objs t s with
        | none => simp [hd] at h
        | some x =>
          cases hr : evElems t e (i + 1) r with
          | none => simp [hd, hr] at h
          | some l =>
            simp only [hd, hr, Option.some.injEq] at h
            subst h
            obtain ⟨vs, e1, e2, e2', e3⟩ := elems_sound hR r (i + 1) l hr
            obtain ⟨cs, hval, has⟩ := decAll_val (Gd := m.G) (fun i o hi => (hR.obj i o hi).2) (fun _ h => h) (fun h => by simp at h) hd (val_sv hR hv)
            refine ⟨a.eval o :: vs, ?_, by simp [e2], by simp [e2'], fun j hj => ?_⟩
            · rw [List.map_cons, e1]
              rfl
            · cases j with
              | zero => exact ⟨cs, _, rfl, asVal_cells hval has, by simpa using hval⟩
              | succ j =>
                obtain ⟨cs', v', h1, h2, h3⟩ := e3 j (by simpa using hj)
                exact ⟨cs', v', by simpa using h1, h2, by simpa using h3⟩

theorem buildSlice_sound (hΓ : TabOk P Γ) (hR : Rel w0 G0 N F m e a.tmps) {T : Nat} {ti tj : TI} (hf : find Γ T = some ti) (hu : P.underlying T = some (.slice ti.elem)) (hj : find Γ ti.elem = some tj) (hpos : 0 < tj.ty.size) (n : Nat) (parts : Array (Nat × Operand)) {xs : List tj.ty.den}
    (h : evElems tj.ty (e.freeze (partIds e parts.toList)) 0 parts.toList = some xs) (hn : Nat.beq (lenN parts.toList) n = true) (hs : Nat.ble (n * tj.ty.size) 16777216 = true) (hfr : ¬ m.D e.next) :
    ∃ m' v, (Instr.buildSlice T n (parts.map fun (i, x) => (i, a.eval x))).run P m.w = .ok v m'.w ∧ Stp m e m' ((e.freeze (partIds e parts.toList)).new (.row ti.elem tj.ty xs)) ∧ Rel w0 G0 N F m' ((e.freeze (partIds e parts.toList)).new (.row ti.elem tj.ty xs)) a.tmps ∧ Lv m' (.row (e.freeze (partIds e parts.toList)).next) v := by
  obtain ⟨m1, l1, w1, hD1, hR1⟩ := hR.freeze (partIds e parts.toList)
  obtain ⟨vs, e1, e2, e2', e3⟩ := elems_sound hR1 parts.toList 0 xs h
  have hlen : xs.length = n := by
    have := Nat.eq_of_beq_eq_true hn
    rw [lenN_eq] at this
    omega
  have hsm := Nat.le_of_ble_eq_true hs
  have hE := hΓ _ tj hj
  obtain ⟨i, z, cs, hi, hsz, hb, hz, hc, ha, hr⟩ := hE.info
  have hvs : ∀ v ∈ vs, v.cells.size = tj.ty.size := by
    intro v hv
    obtain ⟨j, hj, rfl⟩ := List.mem_iff_getElem.1 hv
    obtain ⟨cs', v', h1, h2, h3⟩ := e3 j (by omega)
    rw [List.getElem?_eq_getElem hj, Option.some.injEq] at h1
    rw [h1, h2, List.size_toArray, h3.length]
  have hmap : (parts.map fun (i, x) => (i, a.eval x)).toList = (vs.zipIdx 0).map fun x => (x.2, x.1) := by
    rw [Array.toList_map, ← e1]
  have hfl : (vs.flatMap fun v => v.cells.toList).length = vs.length * tj.ty.size := by
    clear e1 e2 e2' e3 hmap
    induction vs with
    | nil => simp
    | cons v vs ih =>
      rw [List.flatMap_cons, List.length_append, ih fun u hu => hvs u (List.mem_cons_of_mem _ hu), Array.length_toList, hvs v List.mem_cons_self, List.length_cons, Nat.add_mul, Nat.one_mul, Nat.add_comm]
  have hcl : cs.length = tj.ty.size := by rw [← (hr m).length, zeros_length]
  have hzs : z.cells.size = tj.ty.size := by rw [hc, List.size_toArray, hcl]
  have hrun : (Instr.buildSlice T n (parts.map fun (i, x) => (i, a.eval x))).run P m1.w = .ok (.slice (some ⟨m1.w.heap.size, 0, none⟩) n n) (m1.w.alloc (.cells (vs.flatMap fun v => v.cells.toList).toArray ti.elem)) := by
    by_cases h0 : n = 0
    · subst h0
      have : vs = [] := List.eq_nil_of_length_eq_zero (by omega)
      subst this
      have hp : (parts.map fun (i, x) => (i, a.eval x)).toList = [] := by rw [hmap]; rfl
      have hp' : (parts.map fun (i, x) => (i, a.eval x)) = #[] := by
        apply Array.ext'
        rw [hp]
      rw [hp']
      simp [Instr.buildSlice, run_underlying hu, sizeOf, typeInfo, hi, newRow, Instr.fill, Array.range_zero']
    · refine run_buildSlice m1.w T ti.elem n _ _ i z hu hi hz (by rw [hsz]; omega) (by rw [hsz]; intro h; rcases Nat.mul_eq_zero.1 h with h | h <;> omega) ?_
      rw [hmap, hsz]
      exact Great.fill_whole hpos vs _ hvs (by simp; rw [← hlen, e2])
  obtain ⟨m', hle, hw, hR', hv⟩ := hR1.freshRow (T := ti.elem) (t := tj.ty) (xs := xs) (cur := vs.flatMap fun v => v.cells.toList) (c := n) (by omega) (by
    have : n * 1 ≤ n * tj.ty.size := Nat.mul_le_mul_left _ hpos
    simp only [maxLen]; omega) (by rw [hfl, e2, hlen]) (by
    intro j hj
    obtain ⟨cs', v', h1, h2, h3⟩ := e3 j hj
    rw [flatMap_piece vs hvs j v' h1, h2]
    exact h3) (by rw [hD1]; exact hfr)
  refine ⟨m', _, ?_, ⟨l1.trans hle.le, fun i hi => ?_, .inr rfl, rfl⟩, hR', hv⟩
  case refine_2 =>
    have := hle.D i hi
    rw [hD1] at this
    exact this
  rw [← w1, hrun, hw, hlen]

theorem places_of : ∀ {fs : List Field} {ds ss : List Nat}, fieldsOk P fs ds ss = true → ∃ places : List (Nat × Nat), fs.mapM (fun f => (P.info? f.type).map fun i => (f.offset, i.size)) = some places ∧ ∀ i d s, nth ds i = some d → nth ss i = some s → places[i]? = some (d, s)
  | [], [], [], _ => ⟨[], by simp, fun i d s h => by cases i <;> simp [nth] at h⟩
  | f :: fs, d :: ds, s :: ss, h => by
    simp only [fieldsOk, Bool.and_eq_true] at h
    obtain ⟨⟨h1, h2⟩, h3⟩ := h
    obtain ⟨pl, e1, e2⟩ := places_of h3
    cases hj : P.info? f.type with
    | none => simp [hj] at h2
    | some j =>
      simp only [hj, Bool.and_eq_true] at h2
      have ed := Nat.eq_of_beq_eq_true h1
      have es := Nat.eq_of_beq_eq_true h2.1
      subst ed; subst es
      refine ⟨(f.offset, j.size) :: pl, by simp [hj, e1], fun i d s g1 g2 => ?_⟩
      cases i with
      | zero => simp only [nth, Option.some.injEq] at g1 g2; subst g1; subst g2; rfl
      | succ i => simpa using e2 i d s (by simpa [nth] using g1) (by simpa [nth] using g2)
  | [], _ :: _, _, h => by simp [fieldsOk] at h
  | [], [], _ :: _, h => by simp [fieldsOk] at h
  | _ :: _, [], _, h => by simp [fieldsOk] at h
  | _ :: _, _ :: _, [], h => by simp [fieldsOk] at h

theorem evBuild_sound (hR : Rel w0 G0 N F m e a.tmps) {ti : TI} {place : Nat → Option (Nat × Nat)} (hp : ∀ i d s, nth ti.offs i = some d → nth ti.sizes i = some s → place i = some (d, s)) :
    ∀ (l : List (Nat × Operand)) (acc : List V) (cs : List Value) (r : List V), evBuild ti e l acc = some r → R2 (Lv m) acc cs →
      ∃ cs', Instr.fill place cs.toArray (l.map fun x => (x.1, a.eval x.2)) = some cs'.toArray ∧ R2 (Lv m) r cs'
  | [], acc, cs, r, h, hc => by
    simp only [evBuild, Option.some.injEq] at h
    subst h
    exact ⟨cs, rfl, hc⟩
  | (i, o) :: l, acc, cs, r, h, hc => by
    simp only [evBuild] at h
    cases h1 : nth ti.offs i with
    | none => simp [h1] at h
    | some off =>
      cases h2 : nth ti.sizes i with
      | none => simp [h1, h2] at h
      | some sz =>
        cases h3 : e.val o with
        | none => simp [h1, h2, h3] at h
        | some v =>
          simp only [h1, h2, h3] at h
          cases h4 : v.isTup with
          | true => simp [h4] at h
          | false =>
            cases h5 : Nat.beq sz (lenN v.cells) with
            | false => simp [h4, h5] at h
            | true =>
              cases h6 : Nat.ble (off + lenN v.cells) (lenN acc) with
              | false => simp [h4, h5, h6] at h
              | true =>
                simp only [h4, h5, h6] at h
                obtain ⟨vs, hvc, hvr⟩ := (val_sv hR h3).cells h4
                have e5 := Nat.eq_of_beq_eq_true h5
                have e6 := Nat.le_of_ble_eq_true h6
                rw [lenN_eq] at e5
                rw [lenN_eq, lenN_eq] at e6
                have hl := hvr.length
                have hcl := hc.length
                have hpst := R2.paste hc hvr (n := off) e6
                obtain ⟨cs', g1, g2⟩ := evBuild_sound hR hp l _ _ r h hpst
                refine ⟨cs', ?_, g2⟩
                rw [List.map_cons]
                rw [fill_step (hp i off sz h1 h2) hvc (by omega) (by omega)]
                exact g1

theorem build_sound (hΓ : TabOk P Γ) (hR : Rel w0 G0 N F m e a.tmps) {T : Nat} {ti : TI} (hf : find Γ T = some ti) (ha : ti.ty.isAgg = true) (parts : Array (Nat × Operand)) {l : List V} (h : evBuild ti e parts.toList (zeros ti.ty []) = some l) :
    ∃ v, (Instr.build T (parts.map fun (i, x) => (i, a.eval x))).run P m.w = .ok v m.w ∧ Sv m (.agg l) v := by
  have hT := hΓ T ti hf
  obtain ⟨i, z, cs, hi, hs, hb, hz, hc, has, hr⟩ := hT.info
  obtain ⟨d, hu, hrow, hfs⟩ := hT.under
  obtain ⟨fs, rfl, hok⟩ := hfs ha
  obtain ⟨places, hpl, hpi⟩ := places_of hok
  obtain ⟨cs', g1, g2⟩ := evBuild_sound hR (place := (places.toArray[·]?)) (fun i d s h1 h2 => by simpa using hpi i d s h1 h2) parts.toList _ cs l h (hr m)
  refine ⟨.agg cs'.toArray, run_build m.w T _ _ ?_, cs', rfl, g2⟩
  have hmap : (parts.map fun (i, x) => (i, a.eval x)).toList = parts.toList.map fun x => (x.1, a.eval x.2) := by
    rw [Array.toList_map]
  simp only [Program.built, hi, hu, hz, hpl, hmap, hc]
  exact g1

theorem caps_sound (hR : Rel w0 G0 N F m e a.tmps) : ∀ (l : List Operand) (cs : List Cap), evCaps e l = some cs → R2 (Cp m) cs (l.map a.eval)
  | [], cs, h => by simp only [evCaps, Option.some.injEq] at h; subst h; trivial
  | o :: r, cs, h => by
    simp only [evCaps] at h
    cases hr : evCaps e r with
    | none => simp [hr] at h
    | some l =>
      have ih := caps_sound hR r l hr
      simp only [hr] at h
      cases ho : e.one o with
      | none => simp [ho] at h
      | some x =>
        have hx := one_lv hR ho
        cases x with
        | loc id off =>
          cases off with
          | succ => simp [ho] at h
          | zero =>
            simp only [ho, Option.some.injEq] at h
            subst h
            exact ⟨hx, ih⟩
        | el t y off =>
          cases off with
          | succ => simp [ho] at h
          | zero =>
            simp only [ho, Option.some.injEq] at h
            subst h
            obtain ⟨b, o', cs', e1, h1, h2, h3⟩ := hx
            exact ⟨⟨b, o', cs', by simpa using e1, h1, h2, h3⟩, ih⟩
        | _ => simp [ho] at h

theorem extract_sound {l : List (Bool × List V)} {v : Value} (h : Sv m (.tup l) v) {i : Nat} {p : Bool × List V} (hi : nth l i = some p) (w : World) :
    ∃ x, (Instr.extract v i).run P w = .ok x w ∧ Pv m p x := by
  obtain ⟨xs, rfl, hr⟩ := h
  rw [nth_eq] at hi
  obtain ⟨x, hx, hp⟩ := hr.get i p hi
  exact ⟨x, by simp [Instr.extract, hx], hp⟩
end
end Go.Ev
