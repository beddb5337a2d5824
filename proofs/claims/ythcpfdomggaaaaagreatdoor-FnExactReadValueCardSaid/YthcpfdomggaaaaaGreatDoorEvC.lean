/- The evaluator and its soundness, part 3. -/
import Derived.Test.YthcpfdomggaaaaaGreatDoorEvB
import Derived.Test.YthcpfdomggaaaaaGreatDoorEvA
import Derived.Orders
section
/- A row of the frame's own is sorted in place. -/
set_option linter.unusedSimpArgs false
set_option linter.unusedVariables false
set_option linter.unusedSectionVars false
namespace Go.Ev
open Go.RowKit (Below)
open Go.Sort (HoldsK putRowK flatK get_flatK size_flatK)
open Go.Proofs (LessB SWB)

theorem sortAt_mem {f T : Nat} : ∀ {Δ : List (Nat × Con)}, sortAt f T Δ = true → ∃ c, (f, c) ∈ Δ ∧ ∃ Ts, c.args = [.srt Ts] ∧ memT Ts T = true
  | [], h => by simp [sortAt] at h
  | (g, c) :: r, h => by
    simp only [sortAt] at h
    cases hg : Nat.beq f g with
    | false =>
      rw [hg] at h
      obtain ⟨c', h1, h2⟩ := sortAt_mem h
      exact ⟨c', List.mem_cons_of_mem _ h1, h2⟩
    | true =>
      have := Nat.eq_of_beq_eq_true hg
      subst this
      rw [hg] at h
      simp only at h
      split at h
      · rename_i Ts hc
        exact ⟨c, List.mem_cons_self, Ts, hc, h⟩
      · cases h

section
variable {P : Program} {w0 : World} {G0 : Nat → Prop} {N : Nat} {F : List (Nat × Obj)} {m : St} {e : Env} {tm : Array Value} {Γ : Tab} {ρ : Type}

/-- A row of the frame's own holds something else; the heap may have grown. -/
theorem Rel.sorted (hR : Rel w0 G0 N F m e tm) {id U : Nat} {t : Ty} {xs ys : List t.den} (ho : find e.objs id = some (.row U t xs)) {w' : World} (h1 : w'.os = m.w.os) (h2 : w'.tape = m.w.tape) (h3 : w'.output = m.w.output) (h4 : m.w.heap.size ≤ w'.heap.size)
    (h5 : ∀ b, b < m.w.heap.size → (m.ν id).ownBlock ≠ some b → w'.heap[b]? = m.w.heap[b]?) (h6 : RowAt w' m.G U t ys (m.ν id)) : m.le { m with w := w' } ∧ Rel w0 G0 N F { m with w := w' } (e.setObj id (.row U t ys)) tm := by
  have hbk : ∀ b, (m.ν id).ownBlock = some b → blk (e.objs ++ F) m id = some b := fun b hb => blk_left (by simp [blk, ho, hb])
  have hle : m.le { m with w := w' } := ⟨fun b hb => ⟨hb, h5 b (hR.ok.liveG b hb) fun hh => (hR.ok.out id b (hbk b hh)).1 hb⟩, fun b hb => ⟨hb, h5 b (hR.ok.liveH b hb) fun hh => (hR.ok.out id b (hbk b hh)).2.1 hb⟩, fun _ h => h, fun _ _ => rfl, fun _ _ => rfl⟩
  have hbase : Below w0.heap.size w0 w' := by
    have hb := hR.ok.base
    refine ⟨h1.trans hb.os, h2.trans hb.tape, h3.trans hb.output, Nat.le_trans hb.size h4, fun k hk => ?_⟩
    rw [h5 k (Nat.lt_of_lt_of_le hk hb.size) fun hh => by have := (hR.ok.out id k (hbk k hh)).2.2.2; omega]
    exact hb.block k hk
  have hfind : find (e.objs ++ F) id = some (.row U t xs) := find_left ho
  have hold : ∀ j, j ≠ id → blk (upd (e.objs ++ F) id (.row U t ys)) { m with w := w' } j = blk (e.objs ++ F) m j := fun j hj => by
    unfold blk
    rw [find_upd, if_neg (fun e => hj e.symm)]
  have hsame : blk (upd (e.objs ++ F) id (.row U t ys)) { m with w := w' } id = blk (e.objs ++ F) m id := by
    simp [blk, find_upd, hfind]
  have hall : ∀ j, blk (upd (e.objs ++ F) id (.row U t ys)) { m with w := w' } j = blk (e.objs ++ F) m j := fun j => by
    by_cases hj : j = id
    · subst hj; exact hsame
    · exact hold j hj
  refine ⟨hle, hR.objs hle _ _ (ObjsOk.congr (os := upd (e.objs ++ F) id (.row U t ys)) ?_ (upd_left _ ho)) (fun i o hf => ?_)⟩
  · refine ⟨hbase, fun j p hf => ?_, fun j k b g1 g2 => hR.ok.inj j k b (by rw [← hall]; exact g1) (by rw [← hall]; exact g2), fun j b g1 => ?_, fun b hg => Nat.lt_of_lt_of_le (hR.ok.liveG b hg) h4, fun b hg => Nat.lt_of_lt_of_le (hR.ok.liveH b hg) h4, hR.ok.subG, hR.ok.gh⟩
    · rw [find_upd] at hf
      by_cases hj : id = j
      · subst hj
        rw [if_pos rfl, hfind] at hf
        simp only [Option.map_some, Option.some.injEq] at hf
        subst hf
        exact ⟨(hR.ok.objs _ _ hfind).1, h6⟩
      · rw [if_neg hj] at hf
        have hD := hR.ok.objs j p hf
        refine ⟨hD.1, Ob.le hle hD.1 hD.2 (e.objs ++ F) hf fun b hh => h5 b (hR.ok.out j b hh).2.2.1 fun hn => hj (hR.ok.inj _ _ b (hbk b hn) hh)⟩
    · rw [hall] at g1
      obtain ⟨a1, a2, a3, a4⟩ := hR.ok.out j b g1
      exact ⟨a1, a2, Nat.lt_of_lt_of_le a3 h4, a4⟩
  · rw [find_upd] at hf
    by_cases hi : id = i
    · subst hi; exact hR.disj _ _ ho
    · rw [if_neg hi] at hf; exact hR.disj _ _ hf

/-- the closure's answer, in a state -/
theorem evLess_sound {Δ : List (Nat × Con)} (hΔ : DelOk P w0 Δ) {k h : Nat} {cs : List Cap} {cv : List Value} {i j : Int} {z : Bool} (hR : Rel w0 G0 N F m e tm) (hc : R2 (Cp m) cs cv) (hl : evLess k h cs e.objs i j Δ = some z) :
    Enters' P h ∧ Calls P h (#[.int .i64 i, .int .i64 j] ++ cv.toArray) m.w fun en w' => en = .returned (.bool z) ∧ Below m.w.heap.size m.w w' := by
  induction Δ with
  | nil => simp [evLess] at hl
  | cons p Δ ih =>
    obtain ⟨g, c⟩ := p
    have ih := ih fun f c hm => hΔ f c (List.mem_cons_of_mem _ hm)
    simp only [evLess] at hl
    cases hg : Nat.beq h g with
    | false => rw [hg] at hl; exact ih hl
    | true =>
      have := Nat.eq_of_beq_eq_true hg
      subst this
      obtain ⟨hcon, hent, _⟩ := hΔ h c List.mem_cons_self
      rw [hg] at hl
      simp only at hl
      cases hfl : flatAll c.res with
      | false => rw [hfl] at hl; simp at hl
      | true =>
        rw [hfl] at hl
        simp only at hl
        cases hb : bindArgs false e.objs c.args (.one (.i .i64 i) :: .one (.i .i64 j) :: cs.map capSV) with
        | none => rw [hb] at hl; simp at hl
        | some x =>
          rw [hb] at hl
          obtain ⟨y, hy, hK⟩ := bnd_some hl
          have hvs : R2 (Sv m) (.one (.i .i64 i) :: .one (.i .i64 j) :: cs.map capSV) (.int .i64 i :: .int .i64 j :: cv) := by
            refine ⟨rfl, rfl, ?_⟩
            have key : ∀ (cs : List Cap) (l : List Value), R2 (Cp m) cs l → R2 (Sv m) (cs.map capSV) l := by
              intro cs
              induction cs with
              | nil => intro l hl; cases l with
                | nil => trivial
                | cons => exact absurd hl (by simp [R2])
              | cons c cs ih => intro l hl; cases l with
                | nil => exact absurd hl (by simp [R2])
                | cons v l =>
                  refine ⟨?_, ih l hl.2⟩
                  have h1 := hl.1
                  cases c with
                  | loc id => exact h1
                  | el t x =>
                    obtain ⟨b, o, cs', e, h⟩ := h1
                    exact ⟨b, o, cs', by simpa using e, h⟩
            exact key cs cv hc
          have hob : ∀ i o, find e.objs i = some o → Ob m i o := fun i o hi => (hR.obj i o hi).2
          have harg := bindArgs_sound (Gd := fun b => b < m.w.heap.size) hob (fun b hb => hR.ok.liveG b hb) hR.ok.liveH (fun _ i T u xs ad n c' hi hν => (hR.ok.out i ad.block (blk_left (by simp [blk, hi, hν, Value.ownBlock]))).2.2.1) _ _ _ _ hb hvs
          have hcall := hcon k x y m.w (fun b => b < m.w.heap.size) _ hR.ok.base (fun _ h => h) hy harg
          refine ⟨hent, ?_⟩
          have e1 : (#[.int .i64 i, .int .i64 j] ++ cv.toArray : Array Value) = (Value.int .i64 i :: .int .i64 j :: cv).toArray := by simp
          rw [e1]
          refine Calls.mono hcall ?_
          rintro en w' ⟨l, e2, hbel, hres⟩
          refine ⟨?_, hbel⟩
          have hsv := Ress.sv (m := { m with w := w', G := grown (fun b => b < m.w.heap.size) m.w w' }) (Ress.flat (w' := w') (G' := grown (fun b => b < m.w.heap.size) m.w w') hfl hres)
          unfold asBoolV at hK
          split at hK
          · rename_i q hq
            rw [hq] at hsv
            have hb' : asRes l = .bool q := hsv
            rw [e2, hb']
            simp only [Option.some.injEq] at hK
            rw [hK]
          · cases hK

theorem swb_rowAt {α : Type} [Inhabited α] {enc : α → List Value} {k : Nat} (hk : ∀ x, (enc x).length = k) {w W : World} {b U : Nat} {d0 dk : Array α} {cur : List Value} (hh : w.heap[b]? = some (.cells cur.toArray U (0, 0))) (hH : HoldsK enc k w b 0 d0) (hs : dk.size = d0.size) (h : SWB enc k w b 0 dk W) :
    (∃ cur' : List Value, W.heap[b]? = some (.cells cur'.toArray U (0, 0)) ∧ cur'.length = cur.length) ∧ ∀ j, j < dk.size → CellsAt W b (j * k) (enc dk[j]!) := by
  have hb : b < w.heap.size := heap_lt hh
  constructor
  · have := Below.block h b hb
    refine ⟨(Go.Sort.putCells id 0 (flatK enc k dk) cur.toArray).toList, ?_, by simp [Go.Sort.putCells]⟩
    rw [this]
    simp only [putRowK, Go.Sort.putRow, Go.Sort.mapBlock, Array.getElem?_modify, hh, if_true, Option.map_some, Go.Sort.onCells, Array.toArray_toList]
  · intro j hj q v hq
    have hq' : q < k := by rw [← hk dk[j]!]; exact (List.getElem?_eq_some_iff.1 hq).1
    have := (HoldsK.cell (SWB.holds h hb hH hs) hj hq').1
    rw [Nat.zero_add] at this
    rw [this]
    congr 1
    rw [List.getElem!_eq_getElem?_getD, hq]; rfl

theorem sort_sound {Δ : List (Nat × Con)} (hΓ : TabOk P Γ) (hΔ : DelOk P w0 Δ) (hR : Rel w0 G0 N F m e tm) {k f T id h : Nat} {cs : List Cap} {args : List Value} {K : SV → Env → Option ρ} {r : ρ} (hvs : R2 (Sv m) [.one (.ifc T id), .one (.clo h cs)] args) (hh : evSort Γ Δ k f T id h cs e K = some r) :
    Enters' P f ∧ Calls P f args.toArray m.w fun en w' => ∃ v m' e' s, en = .returned v ∧ m'.w = w' ∧ Stp m e m' e' ∧ m'.D = m.D ∧ Rel w0 G0 N F m' e' tm ∧ Sv m' s v ∧ K s e' = some r := by
  obtain ⟨a1, a2, rfl⟩ : ∃ a1 a2, args = [a1, a2] := by
    match args, hvs with
    | [a1, a2], _ => exact ⟨a1, a2, rfl⟩
  obtain ⟨⟨hid, e1, -⟩, ⟨cv, e2, hc⟩, -⟩ := hvs
  subst e1; subst e2
  unfold evSort at hh
  cases hsa : sortAt f T Δ with
  | false => rw [hsa] at hh; simp at hh
  | true =>
    obtain ⟨c, hmem, Ts, hargs, hmt⟩ := sortAt_mem hsa
    obtain ⟨-, hent, hsrt⟩ := hΔ f c hmem
    unfold SrtCon at hsrt
    rw [hargs] at hsrt
    have hst : StableOk P f T := hsrt T hmt
    refine ⟨hent, ?_⟩
    rw [hsa] at hh
    cases hf : find Γ T with
    | none => rw [hf] at hh; simp at hh
    | some ti =>
      rw [hf] at hh
      cases ho : e.obj id with
      | none => rw [ho] at hh; simp at hh
      | some o =>
        cases o with
        | row U t xs =>
          rw [ho] at hh
          simp only at hh
          cases hty : tyEq ti.ty (.sl t) with
          | false => rw [hty] at hh; simp at hh
          | true =>
            rw [hty] at hh
            simp only at hh
            obtain ⟨hcap, hh⟩ := chk_dec hh
            obtain ⟨ys, hys, hK⟩ := bnd_some hh
            have ho' : find e.objs id = some (.row U t xs) := ho
            have hrow : RowAt m.w m.G U t xs (m.ν id) := (hR.obj id _ ho').2
            obtain ⟨hu, hpos, tj, hj, htj, i, z, zs, hi, hsz, -⟩ := elem_info hΓ hf (tyEq_eq hty)
            by_cases hsm : xs.length ≤ 1
            · rw [srt_small hsm] at hys
              obtain rfl := Option.some.inj hys
              have key : ∃ A n c, m.ν id = .slice A n c ∧ n ≤ 1 := by
                rcases hrow with ⟨g, _⟩ | ⟨b, c, cur, g, _⟩
                · exact ⟨_, _, _, g, by omega⟩
                · exact ⟨_, _, _, g, hsm⟩
              obtain ⟨A, n, c, hν, hn⟩ := key
              have := hst.tiny A n c hn (.func h) #[] cv.toArray m.w
              rw [← hν] at this
              refine Calls.mono this ?_
              rintro en w' ⟨rfl, hbel⟩
              have hr' : RowAt w' m.G U t xs (m.ν id) := RowAt.mono (fun b hb => ⟨hb, hbel.block b (hR.ok.liveG b hb)⟩) hrow fun a n c hs => hbel.block _ (hR.ok.out id a.block (blk_left (by simp [blk, ho', hs, Value.ownBlock]))).2.2.1
              obtain ⟨g1, g2⟩ := hR.sorted ho' hbel.os hbel.tape hbel.output hbel.size (fun b hb _ => hbel.block b hb) hr'
              exact ⟨_, { m with w := w' }, e.setObj id (.row U t xs), .tup [], rfl, rfl, .same g1 rfl rfl, rfl, g2, ⟨[], rfl, trivial⟩, hK⟩
            · obtain ⟨lt, ⟨hlt, hspec⟩, rfl⟩ := srt_some hys hsm
              rcases hrow with ⟨_, g⟩ | ⟨b, cp, cur, hν, hhp, hc1, hc2, hc3, hx⟩
              · subst g; simp at hsm
              · -- the elements' own cells
                have hx' : ∀ j : Fin xs.length, ∃ cs', CellsAt m.w b (j.1 * t.size) cs' ∧ Val m.w m.G t (xs.getD j.1 t.zero) cs' := fun j => hx j.1 j.2
                obtain ⟨cj, hcj⟩ : ∃ cj : Fin xs.length → List Value, ∀ j, CellsAt m.w b (j.1 * t.size) (cj j) ∧ Val m.w m.G t (xs.getD j.1 t.zero) (cj j) := ⟨fun j => Classical.choose (hx' j), fun j => Classical.choose_spec (hx' j)⟩
                haveI : Inhabited (Fin xs.length) := ⟨⟨0, by omega⟩⟩
                let d : Array (Fin xs.length) := (List.finRange xs.length).toArray
                have hds : d.size = xs.length := by simp [d]
                have hdg : ∀ j (hj : j < xs.length), d[j]! = ⟨j, hj⟩ := fun j hj => by
                  rw [getElem!_pos d j (by rw [hds]; exact hj)]; simp [d]
                have hklen : ∀ x, (cj x).length = t.size := fun x => (hcj x).2.length
                have hH : HoldsK cj t.size m.w b 0 d := by
                  intro q hq
                  rw [size_flatK, hds] at hq
                  have hq1 : q / t.size < xs.length := Nat.div_lt_of_lt_mul (by rw [Nat.mul_comm]; exact hq)
                  have hq2 : q % t.size < t.size := Nat.mod_lt _ hpos
                  constructor
                  · rw [show _root_.id (flatK cj t.size d)[q]! = (flatK cj t.size d)[q]! from rfl, get_flatK _ _ _ _ (by rw [hds]; exact hq), hdg _ hq1]
                    have := (hcj ⟨q / t.size, hq1⟩).1 (q % t.size) ((cj ⟨q / t.size, hq1⟩)[q % t.size]!) (by
                      rw [List.getElem!_eq_getElem?_getD, List.getElem?_eq_getElem (by rw [hklen]; exact hq2)]; rfl)
                    rw [← this]
                    congr 2
                    show 0 + q = q / t.size * t.size + q % t.size
                    rw [Nat.mul_comm, Nat.div_add_mod]; omega
                  · simp [World.frozen?, hhp]
                have hbl : b < m.w.heap.size := heap_lt hhp
                -- an order of the elements, in a world that has grown
                have world : ∀ (dk : Array (Fin xs.length)) (W : World), SWB cj t.size m.w b 0 dk W → dk.size = xs.length → m.le { m with w := W } ∧ Rel w0 G0 N F { m with w := W } (e.setObj id (.row U t (dk.toList.map fun q => xs.getD q.1 t.zero))) tm := by
                  intro dk W hS hds2
                  obtain ⟨⟨cur', g1, g2⟩, g3⟩ := swb_rowAt hklen hhp hH (hds2.trans hds.symm) hS
                  have hother : ∀ b', b' < m.w.heap.size → b' ≠ b → W.heap[b']? = m.w.heap[b']? := fun b' hb' hne => by
                    rw [Below.block hS b' hb']
                    simp only [putRowK, Go.Sort.putRow, Go.Sort.mapBlock, Array.getElem?_modify, if_neg (Ne.symm hne)]
                  have hown : (m.ν id).ownBlock = some b := by rw [hν]; rfl
                  have hGb : ∀ b', m.G b' → m.G b' ∧ W.heap[b']? = m.w.heap[b']? := fun b' hg => ⟨hg, hother b' (hR.ok.liveG b' hg) fun e => (hR.ok.out id b (blk_left (by simp [blk, ho', hown]))).1 (e ▸ hg)⟩
                  have hos : W.os = m.w.os := by have := Below.os hS; exact this
                  have htp : W.tape = m.w.tape := by have := Below.tape hS; exact this
                  have hou : W.output = m.w.output := by have := Below.output hS; exact this
                  refine hR.sorted ho' hos htp hou (SWB.le hS) (fun b' hb' hne => hother b' hb' fun e => hne (by rw [hown, e])) ?_
                  refine .inr ⟨b, cp, cur', by rw [hν]; simp [hds2], g1, by simpa [hds2] using hc1, hc2, by rw [g2]; exact hc3, fun j hj => ?_⟩
                  have hj' : j < dk.size := by simpa using hj
                  refine ⟨cj dk[j]!, g3 j hj', ?_⟩
                  have : (dk.toList.map fun q => xs.getD q.1 t.zero).getD j t.zero = xs.getD dk[j]!.1 t.zero := by
                    rw [getElem!_pos dk j hj']
                    simp [List.getD_eq_getElem?_getD, hj']
                  rw [this]
                  exact Val.mono hGb _ _ _ (hcj _).2
                obtain ⟨U', ie, hU1, hU2, hrun⟩ := hst.many
                have e3 : U' = ti.elem := by
                  rw [hu] at hU1
                  simpa using hU1.symm
                subst e3
                have e4 : ie.size = t.size := by
                  rw [hi] at hU2
                  obtain rfl := Option.some.inj hU2
                  exact hsz
                rw [e4] at hrun
                have hless : LessB P h cv.toArray cj t.size (fun p q => lt (xs.getD p.1 t.zero) (xs.getD q.1 t.zero)) b 0 d.size m.w := by
                  intro W dk hS hds2 i j hi hj
                  rw [hds] at hds2 hi hj
                  obtain ⟨gle, gR⟩ := world dk W hS hds2
                  have hmap : ∀ q, q < xs.length → (dk.toList.map fun q => xs.getD q.1 t.zero).getD q t.zero = xs.getD dk[q]!.1 t.zero := fun q hq => by
                    rw [getElem!_pos dk q (by omega)]
                    simp [List.getD_eq_getElem?_getD, show q < dk.size by omega]
                  have hsp := hspec (dk.toList.map fun q => xs.getD q.1 t.zero) (by simp [hds2]) (fun y hy => by
                    obtain ⟨q, _, rfl⟩ := List.mem_map.1 hy
                    rw [List.getD_eq_getElem?_getD, List.getElem?_eq_getElem q.2]
                    exact List.getElem_mem q.2) i j hi hj
                  rw [hmap i hi, hmap j hj] at hsp
                  exact (evLess_sound hΔ gR (hc.imp fun _ _ hx => Cp.le gle hx) hsp).2
                have hcl := by
                  have hentH : Enters' P h := by
                    have hsp := hspec xs rfl (fun y hy => hy) 0 0 (by omega) (by omega)
                    have hz := world d m.w (SWB.start hH) hds
                    have hxs : (d.toList.map fun q => xs.getD q.1 t.zero) = xs := by
                      apply List.ext_getElem (by simp [d])
                      intro q h1 h2
                      simp [d, List.getD_eq_getElem?_getD, h2]
                    rw [hxs] at hz
                    exact (evLess_sound hΔ hz.2 (hc.imp fun _ _ hx => Cp.le hz.1 hx) hsp).1
                  exact hrun cj hklen (fun x => Val.oneCells (m := m) (hcj x).2) _ (hlt.on fun p : Fin xs.length => xs.getD p.1 t.zero) h cv.toArray hentH b 0 cp d (by omega) (by rw [hds]; unfold capN at hcap; omega) m.w hless hH hbl
                rw [hds, ← hν] at hcl
                refine Calls.mono hcl ?_
                rintro en w' ⟨rfl, hS⟩
                have hlen : (stab (fun p q : Fin xs.length => lt (xs.getD p.1 t.zero) (xs.getD q.1 t.zero)) d.toList).toArray.size = xs.length := by
                  simp [stab_length, d]
                obtain ⟨g1, g2⟩ := world _ w' hS hlen
                have hxs : (d.toList.map fun q => xs.getD q.1 t.zero) = xs := by
                  apply List.ext_getElem (by simp [d])
                  intro q h1 h2
                  simp [d, List.getD_eq_getElem?_getD, h2]
                have hfin : ((stab (fun p q : Fin xs.length => lt (xs.getD p.1 t.zero) (xs.getD q.1 t.zero)) d.toList).toArray.toList.map fun q => xs.getD q.1 t.zero) = stab lt xs := by
                  have := stab_map (lt := lt) (fun q : Fin xs.length => xs.getD q.1 t.zero) d.toList
                  rw [hxs] at this
                  exact this
                rw [hfin] at g2
                exact ⟨_, { m with w := w' }, e.setObj id (.row U t (stab lt xs)), .tup [], rfl, rfl, .same g1 rfl rfl, rfl, g2, ⟨[], rfl, trivial⟩, hK⟩
        | _ => rw [ho] at hh; simp at hh
end
end Go.Ev
end

section
/- One operation. -/
set_option linter.unusedSimpArgs false
set_option linter.unusedVariables false
namespace Go.Ev
open Go.RowKit (Below)

section
variable {P : Program} {w0 : World} {G0 : Nat → Prop} {N : Nat} {F : List (Nat × Obj)} {m : St} {e : Env} {a : Act} {Γ : Tab} {Δ : List (Nat × Con)} {k : Nat} {ρ : Type}

theorem undef_sv : Sv m (.tup []) undef := ⟨[], rfl, trivial⟩
theorem run_v {s : Sem Value} {w w' : World} {v : Value} (h : s.run P w = .ok v w') : (do pure (Next.value (← s)) : Sem Next).run P w = .ok (.value v) w' := by
  simp only [Sem.run_bind, h, Result.andThen_ok, Sem.run_pure]
theorem run_u {s : Sem Unit} {w w' : World} (h : s.run P w = .ok () w') : (do s; pure Next.skip : Sem Next).run P w = .ok .skip w' := by
  simp only [Sem.run_bind, h, Result.andThen_ok, Sem.run_pure]

theorem valAll_sv (hR : Rel w0 G0 N F m e a.tmps) : ∀ (l : List Operand) (vs : List SV), valAll e l = some vs → R2 (Sv m) vs (l.map a.eval)
  | [], vs, h => by simp only [valAll, Option.some.injEq] at h; subst h; trivial
  | o :: r, vs, h => by
    simp only [valAll] at h
    cases ho : e.val o with
    | none => simp [ho] at h
    | some v =>
      cases hr : valAll e r with
      | none => simp [ho, hr] at h
      | some l =>
        simp only [ho, hr, Option.some.injEq] at h
        subst h
        exact ⟨val_sv hR ho, valAll_sv hR r l hr⟩
theorem caps_sv : ∀ (cs : List Cap) (l : List Value), R2 (Cp m) cs l → R2 (Sv m) (cs.map capSV) l
  | [], [], _ => trivial
  | c :: cs, v :: l, ⟨h1, h2⟩ => by
    refine ⟨?_, caps_sv cs l h2⟩
    cases c with
    | loc id => exact h1
    | el t x =>
      obtain ⟨b, o, cs', e, h⟩ := h1
      exact ⟨b, o, cs', by simpa using e, h⟩
  | [], _ :: _, h => by simp [R2] at h
  | _ :: _, [], h => by simp [R2] at h

/-- What is known behind a step. -/
def Onw (w0 : World) (G0 : Nat → Prop) (N : Nat) (F : List (Nat × Obj)) (m : St) (e : Env) (tm : Array Value) (rd : Bool) {ρ : Type} (K : SV → Env → Option ρ) (r : ρ) (m' : St) (e' : Env) (s : SV) (v : Value) : Prop :=
  Stp m e m' e' ∧ (rd = true → ∀ i, i ≠ e.next → find e'.objs i = find e.objs i) ∧ Rel w0 G0 N F m' e' tm ∧ Sv m' s v ∧ K s e' = some r

theorem builtin_sound (hΓ : TabOk P Γ) (hR : Rel w0 G0 N F m e a.tmps) (hfr : ¬ m.D e.next) {b : Builtin} {ts : Array TypeId} {type : TypeId} {consts : Array Bool} {vs : List SV} {args : List Value} {K : SV → Env → Option ρ} {r : ρ} (hvs : R2 (Sv m) vs args)
    (h : evBuiltin Γ b ts.toList vs e K = some r) (ats : Array Operand) (us : Array TypeId) : ∃ m' e' s v, (builtin b ts type consts args.toArray).run P m.w = .ok (.value v) m'.w ∧ Onw w0 G0 N F m e a.tmps (reads (.call ⟨.builtin b, ats, us⟩)) K r m' e' s v := by
  have same : ∀ i, i ≠ e.next → find e.objs i = find e.objs i := fun _ _ => rfl
  unfold evBuiltin at h
  split at h
  · rename_i v
    cases args with
    | nil => exact absurd hvs (by simp [R2])
    | cons u l =>
      cases l with
      | cons => exact absurd hvs.2 (by simp [R2])
      | nil =>
        cases hts : ts.toList with
        | nil => simp [hts] at h
        | cons T tl =>
          simp only [hts] at h
          cases hf : find Γ T with
          | none => simp [hf] at h
          | some ti =>
            simp only [hf] at h
            cases hl : lenOf e ti.ty v with
            | none => simp [hl] at h
            | some n =>
              simp only [hl] at h
              have hT : ts[0]? = some T := by rw [← Array.getElem?_toList, hts]; rfl
              exact ⟨m, e, .one (.i .i64 n), _, run_v (len_sound hΓ hR hf hl hvs.1 ts hT type), .refl m e, fun _ => same, hR, rfl, h⟩
  · rename_i s x
    cases args with
    | nil => exact absurd hvs (by simp [R2])
    | cons u l =>
      cases l with
      | nil => exact absurd hvs.2 (by simp [R2])
      | cons u2 l =>
        cases l with
        | cons => exact absurd hvs.2.2 (by simp [R2])
        | nil =>
          split at h
          · rename_i T U hts
            cases hTU : Nat.beq T U with
            | false => simp [hTU] at h
            | true =>
              simp only [hTU] at h
              have := Nat.eq_of_beq_eq_true hTU
              subst this
              have hts' : ts = #[T, T] := by
                apply Array.ext'
                rw [hts]
              subst hts'
              obtain ⟨m', e', s', v', g1, g2, g3, g4, g5⟩ := evAppend_sound (P := P) (ty := type) hΓ hR h hvs.1 hvs.2.1 hfr
              exact ⟨m', e', s', v', run_v g1, g2, fun hr => by simp [reads] at hr, g3, g4, g5⟩
          · simp at h
  · rename_i kk x j y
    cases args with
    | nil => exact absurd hvs (by simp [R2])
    | cons u l =>
      cases l with
      | nil => exact absurd hvs.2 (by simp [R2])
      | cons u2 l =>
        cases l with
        | cons => exact absurd hvs.2.2 (by simp [R2])
        | nil =>
          have h1 : u = .int kk x := hvs.1
          have h2 : u2 = .int j y := hvs.2.1
          subst h1; subst h2
          cases hk : kEq kk j with
          | false => simp [hk] at h
          | true =>
            simp only [hk] at h
            exact ⟨m, e, .one (.i kk (min x y)), _, run_v (Lib.run_min_ints m.w ts type kk j x y), .refl m e, fun _ => same, hR, rfl, h⟩
  · rename_i kk x j y
    cases args with
    | nil => exact absurd hvs (by simp [R2])
    | cons u l =>
      cases l with
      | nil => exact absurd hvs.2 (by simp [R2])
      | cons u2 l =>
        cases l with
        | cons => exact absurd hvs.2.2 (by simp [R2])
        | nil =>
          have h1 : u = .int kk x := hvs.1
          have h2 : u2 = .int j y := hvs.2.1
          subst h1; subst h2
          cases hk : kEq kk j with
          | false => simp [hk] at h
          | true =>
            simp only [hk] at h
            exact ⟨m, e, .one (.i kk (max x y)), _, run_v (Lib.run_max_ints m.w ts type kk j x y), .refl m e, fun _ => same, hR, rfl, h⟩
  · simp at h

theorem bnd1 {o : Operand} {x : V} (hR : Rel w0 G0 N F m e a.tmps) (h : e.one o = some x) : Lv m x (a.eval o) := one_lv hR h

theorem op_sound (hΓ : TabOk P Γ) (hΔ : DelOk P w0 Δ) (hR : Rel w0 G0 N F m e a.tmps) (hfr : ¬ m.D e.next) (o : Oper) {K : SV → Env → Option ρ} {r : ρ} (h : evOp Γ Δ k o.op e K = some r)
    {next : Act → World → Prop} {Q : Exit → Act → World → Prop} (hn : ∀ m' e' s v, Onw w0 G0 N F m e a.tmps (reads o.op) K r m' e' s v → next (a.put o.dst v) m'.w) : o.wp P a m.w next Q := by
  obtain ⟨dst, op, type, pos, after, guard⟩ := o
  simp only at h hn
  have same : ∀ i, i ≠ e.next → find e.objs i = find e.objs i := fun _ _ => rfl
  have fresh : ∀ (ob : Obj) i, i ≠ e.next → find (e.new ob).objs i = find e.objs i := fun ob i hi => by
    simp only [Env.new, find_cons]
    rw [if_neg fun e => hi e.symm]
  cases op with
  | move x =>
    simp only [evOp] at h
    cases hx : e.val x with
    | none => simp [hx] at h
    | some v =>
      simp only [hx] at h
      exact wp_value (by simp only [execOp]; rfl) (hn m e v _ ⟨.refl m e, fun _ => same, hR, val_sv hR hx, h⟩)
  | assign x =>
    simp only [evOp] at h
    cases hx : e.val x with
    | none => simp [hx] at h
    | some v =>
      simp only [hx] at h
      exact wp_value (by simp only [execOp]; rfl) (hn m e v _ ⟨.refl m e, fun _ => same, hR, val_sv hR hx, h⟩)
  | pick c x y =>
    simp only [evOp] at h
    cases hc : e.one c with
    | none => simp [hc] at h
    | some v =>
      have hl := one_lv hR hc
      cases v with
      | b z =>
        simp only [Lv] at hl
        simp only [hc] at h
        cases z with
        | true =>
          simp only [br, cond] at h
          cases hx : e.val x with
          | none => simp [hx] at h
          | some v =>
            simp only [hx] at h
            exact wp_value (w' := m.w) (v := a.eval x) (by simp [execOp, hl, asBool]) (hn m e v _ ⟨.refl m e, fun _ => same, hR, val_sv hR hx, h⟩)
        | false =>
          simp only [br, cond] at h
          cases hx : e.val y with
          | none => simp [hx] at h
          | some v =>
            simp only [hx] at h
            exact wp_value (w' := m.w) (v := a.eval y) (by simp [execOp, hl, asBool]) (hn m e v _ ⟨.refl m e, fun _ => same, hR, val_sv hR hx, h⟩)
      | _ => simp [hc] at h
  | alloc T =>
    simp only [evOp] at h
    cases hf : find Γ T with
    | none => simp [hf] at h
    | some ti =>
      simp only [hf] at h
      obtain ⟨m', v, g1, g2, g3, g4⟩ := alloc_sound hΓ hR hf hfr
      exact wp_value (run_v g1) (hn m' _ (.one (.loc e.next 0)) v ⟨g2, fun _ => fresh _, g3, g4, h⟩)
  | box T x =>
    simp only [evOp] at h
    cases hx : e.val x with
    | none => simp [hx] at h
    | some s =>
      simp only [hx] at h
      cases ht : s.isTup with
      | true => simp [ht] at h
      | false =>
        simp only [ht] at h
        obtain ⟨m', v, g1, g2, g3, g4⟩ := box_sound (P := P) (T := T) hR (val_sv hR hx) ht hfr
        exact wp_value (run_v g1) (hn m' _ (.one (.loc e.next 0)) v ⟨g2, fun _ => fresh _, g3, g4, h⟩)
  | makeInterface T x =>
    simp only [evOp] at h
    cases hf : find Γ T with
    | none => simp [hf] at h
    | some ti =>
      cases hx : e.one x with
      | none => simp [hf, hx] at h
      | some v =>
        have hl := one_lv hR hx
        cases v with
        | row id =>
          simp only [hf, hx] at h
          cases ht : ti.ty with
          | sl t =>
            rw [ht] at h
            simp only at h
            obtain ⟨hu, _⟩ := elem_info hΓ hf ht
            obtain ⟨hid, hv, A, n, c, hs⟩ := hl
            refine wp_value (w' := m.w) (v := .iface T (a.eval x)) ?_ (hn m e (.one (.ifc T id)) _ ⟨.refl m e, fun _ => same, hR, ⟨hid, by rw [hv], A, n, c, by rw [← hv]; exact hs⟩, h⟩)
            exact run_v (by simp [Instr.makeInterface, run_underlying hu])
          | _ => rw [ht] at h; simp at h
        | _ => simp [hf, hx] at h
  | build T parts =>
    simp only [evOp] at h
    cases hf : find Γ T with
    | none => simp [hf] at h
    | some ti =>
      simp only [hf] at h
      cases h0 : Nat.beq ti.elem 0 with
      | true =>
        rw [h0] at h
        simp only at h
        cases hb : evBuild ti e parts.toList (zeros ti.ty []) with
        | none => simp [hb] at h
        | some l =>
          simp only [hb] at h
          cases ha : ti.ty.isAgg with
          | false => simp [ha] at h
          | true =>
            simp only [ha] at h
            obtain ⟨v, g1, g2⟩ := build_sound hΓ hR hf (Nat.eq_of_beq_eq_true h0) ha parts hb
            exact wp_value (run_v g1) (hn m e _ v ⟨.refl m e, fun _ => same, hR, g2, h⟩)
      | false =>
        rw [h0] at h
        simp only at h
        cases hj : find Γ ti.elem with
        | none => simp [hj] at h
        | some tj =>
          simp only [hj] at h
          cases hb : evBuildA tj.ty.size e parts.toList (zeros ti.ty []) with
          | none => simp [hb] at h
          | some l =>
            simp only [hb] at h
            cases ha : ti.ty.isAgg with
            | false => simp [ha] at h
            | true =>
              simp only [ha] at h
              obtain ⟨v, g1, g2⟩ := buildA_sound hΓ hR hf (fun e => by rw [e] at h0; simp at h0) hj ha parts hb
              exact wp_value (run_v g1) (hn m e _ v ⟨.refl m e, fun _ => same, hR, g2, h⟩)
  | buildSlice T n parts =>
    simp only [evOp] at h
    cases hf : find Γ T with
    | none => simp [hf] at h
    | some ti =>
      simp only [hf] at h
      cases hj : find Γ ti.elem with
      | none => simp [hj] at h
      | some tj =>
        simp only [hj] at h
        cases hb : evElems tj.ty (e.freeze (partIds e parts.toList)) 0 parts.toList with
        | none => simp [hb] at h
        | some xs =>
          simp only [hb] at h
          cases h1 : Nat.beq (lenN parts.toList) n with
          | false => simp [h1] at h
          | true =>
            cases h2 : Nat.ble (n * tj.ty.size) 16777216 with
            | false => simp [h1, h2] at h
            | true =>
              simp only [h1, h2] at h
              cases h3 : tyEq ti.ty (.sl tj.ty) with
              | false => simp [h3] at h
              | true =>
                simp only [h3] at h
                obtain ⟨hu, hpos, _⟩ := elem_info hΓ hf (tyEq_eq h3)
                obtain ⟨m', v, g1, g2, g3, g4⟩ := buildSlice_sound hΓ hR hf hu hj hpos n parts hb h1 h2 hfr
                exact wp_value (run_v g1) (hn m' _ (.one (.row (e.freeze (partIds e parts.toList)).next)) v ⟨g2, fun hr => by simp [reads] at hr, g3, g4, h⟩)
  | load T x =>
    simp only [evOp] at h
    cases hx : e.one x with
    | none => simp [hx] at h
    | some v =>
      simp only [hx] at h
      obtain ⟨sv, z, g1, g2, g3⟩ := load_sound hΓ hR h (one_lv hR hx)
      exact wp_value (run_v g1) (hn m e sv z ⟨.refl m e, fun _ => same, hR, g2, g3⟩)
  | store T x y =>
    simp only [evOp] at h
    cases hx : e.one x with
    | none => simp [hx] at h
    | some p =>
      cases hy : e.val y with
      | none => simp [hx, hy] at h
      | some v =>
        simp only [hx, hy] at h
        obtain ⟨m', e', g1, g2, _, g3, g4⟩ := store_sound hΓ hR h (one_lv hR hx) (val_sv hR hy)
        exact wp_skip' (run_u g1) (hn m' e' _ _ ⟨g2, fun hr => by simp [reads] at hr, g3, undef_sv, g4⟩)
  | nilCheck x =>
    simp only [evOp] at h
    cases hx : e.one x with
    | none => simp [hx] at h
    | some v =>
      have hl := one_lv hR hx
      cases v with
      | loc id off =>
        simp only [hx] at h
        refine wp_value (w' := m.w) (v := a.eval x) ?_ (hn m e (.one (.loc id off)) _ ⟨.refl m e, fun _ => same, hR, hl, h⟩)
        simp only [execOp, hl.2]; rfl
      | el t y off =>
        simp only [hx] at h
        refine wp_value (w' := m.w) (v := a.eval x) ?_ (hn m e (.one (.el t y off)) _ ⟨.refl m e, fun _ => same, hR, hl, h⟩)
        obtain ⟨b, o, cs, e1, _⟩ := hl
        simp only [execOp, e1]; rfl
      | rel id sz j off =>
        simp only [hx] at h
        refine wp_value (w' := m.w) (v := a.eval x) ?_ (hn m e (.one (.rel id sz j off)) _ ⟨.refl m e, fun _ => same, hR, hl, h⟩)
        obtain ⟨_, b, n, c, _, _, e1⟩ := hl
        simp only [execOp, e1]; rfl
      | _ => simp [hx] at h
  | binOp op T x y yT =>
    simp only [evOp] at h
    cases hf : find Γ T with
    | none => simp [hf] at h
    | some ti =>
      cases hx : e.val x with
      | none => simp [hf, hx] at h
      | some u =>
        cases hy : e.val y with
        | none => simp [hf, hx, hy] at h
        | some v =>
          simp only [hf, hx, hy] at h
          cases h00 : (ti.ty.isAgg && !Nat.beq ti.elem 0) with
          | true => rw [h00] at h; simp at h
          | false =>
          rw [h00] at h
          simp only at h
          obtain ⟨sv, z, g1, g2, g3⟩ := evBin_sound (m := m) hΓ hf h00 h (val_sv hR hx) (val_sv hR hy) x y m.w
          exact wp_value (run_v g1) (hn m e sv z ⟨.refl m e, fun _ => same, hR, g2, g3⟩)
  | unOp op T x =>
    simp only [evOp] at h
    cases hx : e.one x with
    | none => simp [hx] at h
    | some v =>
      simp only [hx] at h
      obtain ⟨sv, z, g1, g2, g3⟩ := evUn_sound (P := P) (m := m) h (one_lv hR hx) m.w
      exact wp_value (run_v g1) (hn m e sv z ⟨.refl m e, fun _ => same, hR, g2, g3⟩)
  | convert src dst' x =>
    simp only [evOp] at h
    cases hs : find Γ src with
    | none => simp [hs] at h
    | some tj =>
      cases hd : find Γ dst' with
      | none => simp [hs, hd] at h
      | some ti =>
        cases hx : e.one x with
        | none => simp [hs, hd, hx] at h
        | some v =>
          simp only [hs, hd, hx] at h
          obtain ⟨m', sv, z, g1, g2, _, g3, g4, g5⟩ := conv_sound hΓ hR hs hd h (one_lv hR hx)
          exact wp_value (run_v g1) (hn m' e sv z ⟨g2, fun _ => same, g3, g4, g5⟩)
  | makeFunc fn first caps =>
    cases fn with
    | func f =>
      simp only [evOp] at h
      cases hfi : first.toList with
      | cons => simp [hfi] at h
      | nil =>
        cases hc : evCaps e caps.toList with
        | none => simp [hfi, hc] at h
        | some l =>
          simp only [hfi, hc] at h
          have hcs := caps_sound hR _ _ hc
          have hf0 : first = #[] := by apply Array.ext'; rw [hfi]
          subst hf0
          refine wp_value (w' := m.w) (v := .func (.func f) #[] (caps.map a.eval)) (run_v (by simp [Instr.makeFunc])) (hn m e (.one (.clo f l)) _ ⟨.refl m e, fun _ => same, hR, ⟨caps.toList.map a.eval, ?_, hcs⟩, h⟩)
          congr 1
          apply Array.ext'
          simp
    | _ => simp [evOp] at h
  | makeSlice T l c =>
    simp only [evOp] at h
    cases hf : find Γ T with
    | none => simp [hf] at h
    | some ti =>
      simp only [hf] at h
      cases hj : find Γ ti.elem with
      | none => simp [hj] at h
      | some tj =>
        simp only [hj] at h
        cases h3 : tyEq ti.ty (.sl tj.ty) with
        | false => simp [h3] at h
        | true =>
          simp only [h3] at h
          cases hl : e.one l with
          | none => simp [hl] at h
          | some vl =>
            cases hc : e.one c with
            | none => cases vl <;> simp [hl, hc] at h
            | some vc =>
              have l1 := one_lv hR hl
              have l2 := one_lv hR hc
              cases vl with
              | i kl n =>
                cases vc with
                | i kc n' =>
                  simp only [hl, hc] at h
                  obtain ⟨e1, k1⟩ := chk_some h
                  obtain ⟨h0, k2⟩ := chk_dec k1
                  obtain ⟨hcap, k3⟩ := chk_dec k2
                  have e1' : n = n' := by simpa using e1
                  clear h k1 k2
                  subst e1'
                  simp only [Lv] at l1 l2
                  obtain ⟨hu, hpos, _⟩ := elem_info hΓ hf (tyEq_eq h3)
                  obtain ⟨m', v, g1, g2, g3, g4⟩ := makeSlice_sound hΓ hR hf hu hj hpos kl kc h0 hcap hfr
                  refine wp_value (w' := m'.w) (v := v) ?_ (hn m' _ (.one (.row e.next)) v ⟨g2, fun _ => fresh _, g3, g4, k3⟩)
                  simp only [execOp, l1, l2]
                  exact run_v g1
                | _ => simp [hl, hc] at h
              | _ => simp [hl] at h
  | slice T x lo hi mx =>
    cases mx with
    | some => simp [evOp] at h
    | none =>
      simp only [evOp] at h
      cases hf : find Γ T with
      | none => simp [hf] at h
      | some ti =>
        cases hx : e.one x with
        | none => simp [hf, hx] at h
        | some v =>
          simp only [hf, hx] at h
          have hl := one_lv hR hx
          unfold evSlice at h
          cases hlo : bound e lo with
          | none => simp [hlo] at h
          | some l =>
            cases hhi : bound e hi with
            | none => simp [hlo, hhi] at h
            | some hh =>
              simp only [hlo, hhi] at h
              cases v with
              | s y =>
                simp only at h
                cases ht : tyEq ti.ty .str with
                | false => simp [ht] at h
                | true =>
                  simp only [ht] at h
                  obtain ⟨s, e1, rfl⟩ := hl
                  obtain ⟨sv, z, g1, g2, g3⟩ := sliceS_sound hΓ hf (tyEq_eq ht) hR hlo hhi h
                  refine wp_value (w' := m.w) (v := z) ?_ (hn m e sv z ⟨.refl m e, fun _ => same, hR, g2, g3⟩)
                  simp only [execOp, e1]
                  exact run_v g1
              | sl t xs =>
                simp only at h
                cases ht : tyEq ti.ty (.sl t) with
                | false => simp [ht] at h
                | true =>
                  simp only [ht] at h
                  obtain ⟨sv, z, g1, g2, g3⟩ := sliceN_sound hΓ hf (tyEq_eq ht) hl hR hlo hhi h
                  exact wp_value (run_v g1) (hn m e sv z ⟨.refl m e, fun _ => same, hR, g2, g3⟩)
              | row id =>
                simp only at h
                obtain ⟨m1, l1, w1, hD1, hR1⟩ := hR.freeze [id]
                have hl1 := Lv.le l1 hl
                cases ho : (e.freeze [id]).obj id with
                | none => simp [ho] at h
                | some o =>
                  cases o with
                  | frow t xs =>
                    simp only [ho] at h
                    cases ht : tyEq ti.ty (.sl t) with
                    | false => simp [ht] at h
                    | true =>
                      simp only [ht] at h
                      have hob := (hR1.obj id _ ho).2
                      have hv : Val m1.w m1.G (.sl t) xs [a.eval x] := by rw [hl1.2.1]; exact hob
                      obtain ⟨sv, z, g1, g2, g3⟩ := sliceN_sound hΓ hf (tyEq_eq ht) hv hR1 (lo := lo) (hi := hi) hlo hhi h
                      rw [← w1]
                      exact wp_value (run_v g1) (hn m1 (e.freeze [id]) sv z ⟨.same l1 hD1 rfl, fun hr => by simp [reads] at hr, hR1, g2, g3⟩)
                  | _ => simp [ho] at h
              | _ => simp at h
  | fieldAddr T x i =>
    simp only [evOp] at h
    cases hf : find Γ T with
    | none => simp [hf] at h
    | some ti =>
      simp only [hf] at h
      cases hd : nth ti.offs i with
      | none => simp [hd] at h
      | some d =>
        cases ha : ti.ty.isAgg with
        | false => simp [hd, ha] at h
        | true =>
          simp only [hd, ha] at h
          cases hx : e.one x with
          | none => simp [hx] at h
          | some v =>
            have hl := one_lv hR hx
            cases v with
            | loc id off =>
              simp only [hx] at h
              obtain ⟨hid, e1⟩ := hl
              refine wp_value (w' := m.w) (v := .pointer (some ⟨m.β id, off + d, none⟩)) ?_ (hn m e (.one (.loc id (off + d))) _ ⟨.refl m e, fun _ => same, hR, ⟨hid, rfl⟩, h⟩)
              simp only [execOp, e1]
              exact run_v (fieldAt_run hΓ hf hd ha m.w _ _)
            | el t y off =>
              simp only [hx] at h
              obtain ⟨b, o, cs, e1, hH, hc, hv⟩ := hl
              refine wp_value (w' := m.w) (v := .pointer (some ⟨b, o + off + d, none⟩)) ?_ (hn m e (.one (.el t y (off + d))) _ ⟨.refl m e, fun _ => same, hR, ⟨b, o, cs, by rw [Nat.add_assoc], hH, hc, hv⟩, h⟩)
              simp only [execOp, e1]
              exact run_v (fieldAt_run hΓ hf hd ha m.w _ _)
            | rel id sz j off =>
              simp only [hx] at h
              obtain ⟨hid, b, n, c, hν, hj, e1⟩ := hl
              refine wp_value (w' := m.w) (v := .pointer (some ⟨b, j * sz + off + d, none⟩)) ?_ (hn m e (.one (.rel id sz j (off + d))) _ ⟨.refl m e, fun _ => same, hR, ⟨hid, b, n, c, hν, hj, by rw [Nat.add_assoc]⟩, h⟩)
              simp only [execOp, e1]
              exact run_v (fieldAt_run hΓ hf hd ha m.w _ _)
            | _ => simp [hx] at h
  | indexAddr T x i =>
    simp only [evOp] at h
    cases hf : find Γ T with
    | none => simp [hf] at h
    | some ti =>
      cases hx : e.one x with
      | none => simp [hf, hx] at h
      | some v =>
        cases hi : e.one i with
        | none => simp [hf, hx, hi] at h
        | some j =>
          have hl := one_lv hR hi
          cases j with
          | i kj n =>
            simp only [hf, hx, hi] at h
            simp only [Lv] at hl
            obtain ⟨sv, z, g1, g2, g3⟩ := indexAddr_sound (k := kj) hΓ hR hf h (one_lv hR hx)
            refine wp_value (w' := m.w) (v := z) ?_ (hn m e sv z ⟨.refl m e, fun _ => same, hR, g2, g3⟩)
            simp only [execOp, hl]
            exact run_v g1
          | _ => simp [hf, hx, hi] at h
  | index T x i =>
    simp only [evOp] at h
    cases hf : find Γ T with
    | none => simp [hf] at h
    | some ti =>
      cases hx : e.one x with
      | none =>
        cases hi : e.one i with
        | none => simp [hf, hx, hi] at h
        | some jv =>
          have hl := one_lv hR hi
          cases jv with
          | i kj n =>
            simp only [hf, hx, hi] at h
            cases hv : e.val x with
            | none => simp [hv] at h
            | some v =>
              simp only [hv] at h
              obtain ⟨z, kk, q, g1, g2, g3⟩ := indexArr_sound (P := P) (kk := kj) hΓ hf h (val_sv hR hv)
              refine wp_value (w' := m.w) (v := z) ?_ (hn m e (.one (.i kk q)) z ⟨.refl m e, fun _ => same, hR, g2, g3⟩)
              simp only [Lv] at hl
              simp only [execOp, hl]
              exact run_v g1
          | _ => simp [hf, hx, hi] at h
      | some v =>
        cases hi : e.one i with
        | none => cases v <;> simp [hf, hx, hi] at h
        | some j =>
          have h1 := one_lv hR hx
          have hl := one_lv hR hi
          cases v with
          | s y =>
            cases j with
            | i kj n =>
              simp only [hf, hx, hi] at h
              cases ht : tyEq ti.ty .str with
              | false => simp [ht] at h
              | true =>
                simp only [ht] at h
                obtain ⟨h0, h⟩ := chk_dec h
                obtain ⟨hlt, h⟩ := chk_dec h
                simp only [Lv] at hl
                obtain ⟨s, e1, rfl⟩ := h1
                refine wp_value (w' := m.w) (v := _) ?_ (hn m e (.one (.i .u8 ((s.data.toList.getD n.toNat 0).toNat : Nat))) _ ⟨.refl m e, fun _ => same, hR, rfl, h⟩)
                simp only [execOp, hl, e1]
                exact run_v (index_sound (P := P) hΓ hf (tyEq_eq ht) h0 hlt m.w)
            | _ => simp [hf, hx, hi] at h
          | _ => simp [hf, hx] at h
  | extract x i =>
    simp only [evOp] at h
    cases hx : e.val x with
    | none => simp [hx] at h
    | some v =>
      have hs := val_sv hR hx
      cases v with
      | tup l =>
        simp only [hx] at h
        cases hi : nth l i with
        | none => simp [hi] at h
        | some p =>
          obtain ⟨z, g1, g2⟩ := extract_sound (P := P) hs hi m.w
          obtain ⟨bb, vs⟩ := p
          rcases g2 with ⟨hb, cs, e1, hr⟩ | ⟨hb, v', ev, hr⟩
          · simp only at hb
            subst hb
            simp only [hi] at h
            exact wp_value (run_v g1) (hn m e (.agg vs) z ⟨.refl m e, fun _ => same, hR, ⟨cs, e1, hr⟩, h⟩)
          · simp only at hb ev
            subst hb; subst ev
            simp only [hi] at h
            exact wp_value (run_v g1) (hn m e (.one v') z ⟨.refl m e, fun _ => same, hR, hr, h⟩)
      | _ => simp [hx] at h
  | call c =>
    obtain ⟨callee, args, ts⟩ := c
    cases callee with
    | builtin b =>
      simp only [evOp] at h
      cases hv : valAll e args.toList with
      | none => simp [hv] at h
      | some vs =>
        simp only [hv] at h
        obtain ⟨m', e', s, v, g1, g2⟩ := builtin_sound (P := P) (type := type) (consts := args.map fun | .const _ => true | _ => false) hΓ hR hfr (valAll_sv hR _ _ hv) h args ts
        refine wp_value (w' := m'.w) (v := v) ?_ (hn m' e' s v g2)
        have e1 : (args.toList.map a.eval).toArray = args.map a.eval := by apply Array.ext'; simp
        rw [e1] at g1
        simp only [execOp, resolve, Sem.run_bind, Sem.run_pure, Result.andThen_ok, invoke]
        exact g1
    | value f =>
      simp only [evOp] at h
      cases hx : e.one f with
      | none => simp [hx] at h
      | some v =>
        have hl := one_lv hR hx
        cases v with
        | clo g caps =>
          cases hv : valAll e args.toList with
          | none => simp [hx, hv] at h
          | some vs =>
            simp only [hx, hv] at h
            obtain ⟨cv, e1, hc⟩ := hl
            have hvs := (valAll_sv hR _ _ hv).append (caps_sv _ _ hc)
            have hboth : Enters' P g ∧ Calls P g (args.toList.map a.eval ++ cv).toArray m.w fun en w' => ∃ v m' e' s, en = .returned v ∧ m'.w = w' ∧ Stp m e m' e' ∧ m'.D = m.D ∧ Rel w0 G0 N F m' e' a.tmps ∧ Sv m' s v ∧ K s e' = some r := by
              cases hsa : sortArgs (vs ++ caps.map capSV) with
              | none =>
                rw [hsa] at h
                exact call_sound (fun f c hm => ⟨(hΔ f c hm).1, (hΔ f c hm).2.1⟩) hR hvs h
              | some q =>
                obtain ⟨T, id, hh, cs⟩ := q
                rw [hsa] at h
                have heq : vs ++ caps.map capSV = [.one (.ifc T id), .one (.clo hh cs)] := by
                  unfold sortArgs at hsa
                  split at hsa
                  · rename_i T' id' h' cs' he
                    simp only [Option.some.injEq, Prod.mk.injEq] at hsa
                    obtain ⟨rfl, rfl, rfl, rfl⟩ := hsa
                    exact he
                  · cases hsa
                rw [heq] at hvs
                exact sort_sound hΓ hΔ hR hvs h
            obtain ⟨hent, hcall⟩ := hboth
            have hrun : (execOp a.eval ⟨dst, .call ⟨.value f, args, ts⟩, type, pos, after, guard⟩).run P m.w = .ok (.enter g (args.toList.map a.eval ++ cv).toArray) m.w := by
              simp only [execOp, resolve, e1, Deferred.ofValue, Sem.run_bind, Sem.run_pure, Result.andThen_ok, invoke]
              have e2 : (#[] ++ args.map a.eval ++ cv.toArray) = (args.toList.map a.eval ++ cv).toArray := by apply Array.ext'; simp
              rw [e2]
              exact hent _ _
            unfold Oper.wp
            rw [hrun, Oper.upon_enter]
            refine Calls.mono hcall ?_
            intro en w' ⟨v, m', e', s, e3, hw, g1, _, g2, g3, g4⟩
            subst e3; subst hw
            exact hn m' e' s v ⟨g1, fun hr => by simp [reads] at hr, g2, g3, g4⟩
        | _ => simp [hx] at h
    | invoke r n => simp [evOp] at h
  | _ => simp [evOp] at h
end
end Go.Ev
end

section
/- A region of operations, one behind the other. -/
set_option linter.unusedSimpArgs false
set_option linter.unusedVariables false
namespace Go.Ev
open Go.RowKit (Below)

/-- All names are below the next. -/
def Fresh (m : St) (e : Env) : Prop := ∀ i, m.D i → i < e.next

section
variable {P : Program} {w0 : World} {G0 : Nat → Prop} {N : Nat} {F : List (Nat × Obj)} {m : St} {e : Env} {tm : Array Value} {Γ : Tab} {Δ : List (Nat × Con)} {k : Nat} {ρ : Type}

theorem Fresh.free (h : Fresh m e) : ¬ m.D e.next := fun hd => absurd (h _ hd) (Nat.lt_irrefl _)
theorem Stp.fresh {m' : St} {e' : Env} (h : Stp m e m' e') (hf : Fresh m e) : Fresh m' e' := by
  intro i hi
  rcases h.D i hi with hi | ⟨rfl, h2⟩
  · have := hf i hi
    rcases h.next with h | h <;> omega
  · omega
theorem put_next (e : Env) (d : Option Nat) (v : SV) : (e.put d v).next = e.next := by cases d <;> rfl
theorem put_objs (e : Env) (d : Option Nat) (v : SV) : (e.put d v).objs = e.objs := by cases d <;> rfl

def dstOk (N : Nat) (d : Option Nat) : Bool := match d with
  | some d => Nat.blt d N
  | none => true
theorem Rel.put (hR : Rel w0 G0 N F m e tm) {d : Option Nat} (hd : dstOk N d = true) {sv : SV} {v : Value} (hv : Sv m sv v) : Rel w0 G0 N F m (e.put d sv) ((⟨tm, []⟩ : Act).put d v).tmps := by
  cases d with
  | none => exact hR
  | some d =>
    have hlt : d < N := by
      simp only [dstOk] at hd
      exact Nat.le_of_ble_eq_true hd
    exact hR.set hlt hv
theorem put_act (tm : Array Value) (d : Option Nat) (v : Value) : (⟨tm, []⟩ : Act).put d v = ⟨((⟨tm, []⟩ : Act).put d v).tmps, []⟩ := by cases d <;> rfl

/-- What a guard says. -/
theorem yielded_bool {all : List Oper} {ops : Array Oper} (ha : ops.toList = all) {j s : Nat} {g : Oper} (h1 : nth all j = some g) (h2 : g.dst = some s) {x : Bool} (hs : tm[s]? = some (.bool x)) : yielded ops tm j = some x := by
  rw [nth_eq, ← ha, Array.getElem?_toList] at h1
  simp [yielded, h1, h2, hs]
theorem yielded_none {all : List Oper} {ops : Array Oper} (ha : ops.toList = all) {j s : Nat} {g : Oper} (h1 : nth all j = some g) (h2 : g.dst = some s) (hs : tm[s]? = some (.tuple #[])) : yielded ops tm j = none := by
  rw [nth_eq, ← ha, Array.getElem?_toList] at h1
  simp [yielded, h1, h2, hs]

theorem ops_sound (hΓ : TabOk P Γ) (hΔ : DelOk P w0 Δ) {ops : Array Oper} {all : List Oper} (ha : ops.toList = all) {Q : Exit → Act → World → Prop} {K : Env → Option ρ} {r : ρ}
    (hQ : ∀ m' e' tm', Rel w0 G0 N F m' e' tm' → Fresh m' e' → K e' = some r → Q .normal ⟨tm', []⟩ m'.w) :
    ∀ (l : List Oper) (m : St) (e : Env) (tm : Array Value), (∀ o ∈ l, dstOk N o.dst = true) → Rel w0 G0 N F m e tm → Fresh m e → evOps Γ Δ k all l e K = some r → wpList P ops Q l ⟨tm, []⟩ m.w
  | [], m, e, tm, _, hR, hf, h => hQ m e tm hR hf h
  | o :: rest, m, e, tm, hd, hR, hf, h => by
    have hdo := hd o List.mem_cons_self
    have hdr : ∀ o ∈ rest, dstOk N o.dst = true := fun o ho => hd o (List.mem_cons_of_mem _ ho)
    have ih := ops_sound hΓ hΔ ha hQ rest
    -- the operation is done
    have doit : ∀ e1 : Env, Rel w0 G0 N F m e1 tm → Fresh m e1 → evOp Γ Δ k o.op e1 (fun v e' => evOps Γ Δ k all rest (e'.put o.dst v) K) = some r → o.wp P ⟨tm, []⟩ m.w (wpList P ops Q rest) Q := by
      intro e1 hR1 hf1 h1
      refine op_sound (a := ⟨tm, []⟩) hΓ hΔ hR1 hf1.free o h1 ?_
      intro m' e' s v ⟨g1, _, g2, g3, g4⟩
      rw [put_act]
      exact ih m' _ _ hdr (g2.put hdo g3) (by unfold Fresh; rw [put_next]; exact g1.fresh hf1) g4
    -- it is left out
    have skip : ∀ e1 : Env, Rel w0 G0 N F m e1 tm → Fresh m e1 → evOps Γ Δ k all rest (e1.put o.dst (.tup [])) K = some r → wpList P ops Q rest ((⟨tm, []⟩ : Act).put o.dst undef) m.w := by
      intro e1 hR1 hf1 h1
      rw [put_act]
      exact ih m _ _ hdr (hR1.put hdo undef_sv) (by unfold Fresh; rw [put_next]; exact hf1) h1
    unfold wpList
    unfold evOps at h
    cases hg : o.guard with
    | none =>
      rw [hg] at h
      have hw : Region.wanted o (yielded ops tm) = true := by simp [Region.wanted, hg]
      simp only [hw, if_true]
      exact .inl (doit e hR hf h)
    | some p =>
      obtain ⟨j, want⟩ := p
      rw [hg] at h
      simp only at h
      cases hj : nth all j with
      | none => simp [hj] at h
      | some g =>
        simp only [hj] at h
        cases hds : g.dst with
        | none => simp [hds] at h
        | some s =>
          simp only [hds] at h
          cases hs : e.get s with
          | none => simp [hs] at h
          | some sv =>
            obtain ⟨v, hv, hsv⟩ := hR.slots s sv hs
            have refined : ∀ {sv' : SV}, Sv m sv' v → Rel w0 G0 N F m (e.set s sv') tm := fun hsv' => hR.reset hv hsv'
            have fr : ∀ sv', Fresh m (e.set s sv') := fun _ => hf
            cases sv with
            | agg l => simp [hs] at h
            | tup l =>
              cases l with
              | cons => simp [hs] at h
              | nil =>
                simp only [hs] at h
                obtain ⟨xs, e1, hx⟩ := hsv
                have : xs = [] := by cases xs with
                  | nil => rfl
                  | cons => exact absurd hx (by simp [R2])
                subst this
                subst e1
                have hw : Region.wanted o (yielded ops tm) = false := by
                  simp only [Region.wanted, hg, yielded_none ha hj hds hv]
                  rfl
                simp only [hw, Bool.false_eq_true, if_false]
                exact skip e hR hf h
            | one y =>
              cases y with
              | b x =>
                simp only [hs] at h
                have hvx : v = .bool x := hsv
                subst hvx
                have hw : Region.wanted o (yielded ops tm) = (x == want) := by
                  simp only [Region.wanted, hg, yielded_bool ha hj hds hv]
                  cases x <;> cases want <;> rfl
                rw [hw]
                cases x <;> cases want <;> simp only [br, cond] at h
                · exact .inl (doit _ (refined (sv' := .one (.b false)) rfl) (fr _) h)
                · exact skip _ (refined (sv' := .one (.b false)) rfl) (fr _) h
                · exact skip _ (refined (sv' := .one (.b true)) rfl) (fr _) h
                · exact .inl (doit _ (refined (sv' := .one (.b true)) rfl) (fr _) h)
              | _ => simp [hs] at h
end
end Go.Ev
end

section
/- What lives on at a join or a loop's head. -/
set_option linter.unusedSimpArgs false
set_option linter.unusedVariables false
namespace Go.Ev
open Go.RowKit (Below)

/-- A variable's cells, of which some are rows of the frame's own; bl: their blocks. -/
def OwnCells (w : World) (G : Nat → Prop) (own : List (Nat × Nat)) : (t : Ty) → Nat → t.den → List Value → List Nat → Prop
  | .sl t, n, xs, cs, bl => match ownT own n with
    | some T => ∃ v, cs = [v] ∧ RowAt w G T t xs v ∧ bl = v.ownBlock.toList
    | none => Val w G (.sl t) xs cs ∧ bl = []
  | .pair a b, n, x, cs, bl => ∃ c1 c2 b1 b2, cs = c1 ++ c2 ∧ bl = b1 ++ b2 ∧ OwnCells w G own a n x.1 c1 b1 ∧ OwnCells w G own b (n + a.size) x.2 c2 b2
  | .int k, _, x, cs, bl => Val w G (.int k) x cs ∧ bl = []
  | .bool, _, x, cs, bl => Val w G .bool x cs ∧ bl = []
  | .str, _, x, cs, bl => Val w G .str x cs ∧ bl = []
  | .unit, _, x, cs, bl => Val w G .unit x cs ∧ bl = []
  | .any, _, x, cs, bl => Val w G .any x cs ∧ bl = []

def PtrH (w : World) (G H : Nat → Prop) (t : Ty) (x : t.den) (v : Value) : Prop := ∃ b o cs, v = .pointer (some ⟨b, o, none⟩) ∧ H b ∧ CellsAt w b o cs ∧ Val w G t x cs
def CapsH (w : World) (G H : Nat → Prop) : (ts : List Ty) → dens ts → List Value → Prop
  | [], _, l => l = []
  | t :: r, x, v :: l => PtrH w G H t x.1 v ∧ CapsH w G H r x.2 l
  | _ :: _, _, [] => False

def PkItem (w : World) (G H : Nat → Prop) (tm : Array Value) : (a : Item) → a.den → List Nat → Prop
  | .val s t, x, bl => ∃ v, tm[s]? = some v ∧ Res1 w G t x v ∧ bl = []
  | .var s t own, x, bl => ∃ b cs T bl', tm[s]? = some (.pointer (some ⟨b, 0, none⟩)) ∧ w.heap[b]? = some (.cells (List.toArray cs) T (0, 0)) ∧ OwnCells w G own t 0 x cs bl' ∧ bl = bl' ++ [b]
  | .row s T t, xs, bl => ∃ v, tm[s]? = some v ∧ RowAt w G T t xs v ∧ bl = v.ownBlock.toList
  | .el s t, x, bl => ∃ v, tm[s]? = some v ∧ PtrH w G H t x v ∧ bl = []
  | .clo s f ts, x, bl => ∃ cv : List Value, tm[s]? = some (.func (.func f) #[] cv.toArray) ∧ CapsH w G H ts x cv ∧ bl = []
def PkAll (w : World) (G H : Nat → Prop) (tm : Array Value) : (l : List Item) → Items.den l → List Nat → Prop
  | [], _, bl => bl = []
  | [a], x, bl => PkItem w G H tm a x bl
  | a :: b :: r, x, bl => ∃ b1 b2, bl = b1 ++ b2 ∧ PkItem w G H tm a x.1 b1 ∧ PkAll w G H tm (b :: r) x.2 b2

structure Packed (w0 : World) (G0 : Nat → Prop) (N : Nat) (w : World) (l : List Item) (y : Items.den l) (tm : Array Value) : Prop where
  size : tm.size = N
  base : Below w0.heap.size w0 w
  ex : ∃ (G H : Nat → Prop) (bl : List Nat), PkAll w G H tm l y bl ∧ bl.Nodup ∧ (∀ b ∈ bl, ¬ G b ∧ ¬ H b ∧ b < w.heap.size ∧ w0.heap.size ≤ b) ∧
    (∀ b, G b → b < w.heap.size) ∧ (∀ b, H b → b < w.heap.size) ∧ (∀ b, G b → G0 b ∨ w0.heap.size ≤ b) ∧ ∀ b, G b → H b

section
variable {P : Program} {w0 : World} {G0 : Nat → Prop} {N : Nat} {m m1 : St} {e : Env} {tm : Array Value}

/-- Unpacking goes on: 'rest' are the blocks that still wait for their names. -/
structure Cur (w0 : World) (G0 : Nat → Prop) (N : Nat) (m : St) (e : Env) (tm : Array Value) (rest : List Nat) : Prop where
  rel : Rel w0 G0 N [] m e tm
  fresh : Fresh m e
  dis : ∀ i b, blk e.objs m i = some b → b ∉ rest
  nd : rest.Nodup
  bl : ∀ b ∈ rest, ¬ m.G b ∧ ¬ m.H b ∧ b < m.w.heap.size ∧ w0.heap.size ≤ b
/-- The same memory, more names. -/
structure Grow (m m' : St) : Prop where
  le : m.le m'
  w : m'.w = m.w
  G : m'.G = m.G
  H : m'.H = m.H
theorem Grow.refl (m : St) : Grow m m := ⟨.refl m, rfl, rfl, rfl⟩
theorem Grow.trans {a b c : St} (h : Grow a b) (k : Grow b c) : Grow a c := ⟨h.le.trans k.le, k.w.trans h.w, k.G.trans h.G, k.H.trans h.H⟩

/-- An object in a block that is there. -/
theorem Cur.hold {bl rest : List Nat} (h : Cur w0 G0 N m e tm (bl ++ rest)) (o : Obj) (b' : Nat) (v : Value)
    (hb : ∀ m' : St, m'.β e.next = b' → m'.ν e.next = v → ∀ b, blk ((e.next, o) :: e.objs) m' e.next = some b → b ∈ bl)
    (ho : ∀ m' : St, Grow m m' → m'.β e.next = b' → m'.ν e.next = v → m'.D e.next → Ob m' e.next o) :
    ∃ m', Grow m m' ∧ m'.β e.next = b' ∧ m'.ν e.next = v ∧ m'.D e.next ∧ Cur w0 G0 N m' (e.new o) tm rest := by
  have hf := h.fresh
  let m' : St := { m with β := fun i => if i = e.next then b' else m.β i, ν := fun i => if i = e.next then v else m.ν i, D := fun i => m.D i ∨ i = e.next }
  have hle : m.le m' := ⟨fun b hb => ⟨hb, rfl⟩, fun b hb => ⟨hb, rfl⟩, fun _ h => .inl h, fun i hi => if_neg (fun (q : i = e.next) => hf.free (q ▸ hi)), fun i hi => if_neg (fun (q : i = e.next) => hf.free (q ▸ hi))⟩
  have hgr : Grow m m' := ⟨hle, rfl, rfl, rfl⟩
  have h1 : m'.β e.next = b' := if_pos rfl
  have h2 : m'.ν e.next = v := if_pos rfl
  have hok0 : ObjsOk w0 G0 m e.objs := by have := h.rel.ok; rwa [List.append_nil] at this
  have hok : ObjsOk w0 G0 m' ((e.next, o) :: e.objs) := hok0.new hf.free hle (.inr rfl) o hok0.base (fun _ _ _ => rfl) (fun b hb => ⟨.inl hb, hok0.liveG b hb⟩) (fun b hb => ⟨.inl hb, hok0.liveH b hb⟩) (Nat.le_refl _) hok0.gh (ho m' hgr h1 h2 (.inr rfl)) fun b hbk => by
    have hm := hb m' h1 h2 b hbk
    obtain ⟨o1, o2, o3, o4⟩ := h.bl b (List.mem_append_left _ hm)
    exact ⟨o1, o2, o3, o4, fun i hi => h.dis i b hi (List.mem_append_left _ hm)⟩
  refine ⟨m', hgr, h1, h2, .inr rfl, h.rel.push hf.free hle o (by rw [List.append_nil]; exact hok), fun i hi => ?_, fun i b hbk => ?_, (List.nodup_append.1 h.nd).2.1, fun b hb => h.bl b (List.mem_append_right _ hb)⟩
  · rcases hi with hi | hi
    · have := hf i hi
      show i < e.next + 1
      omega
    · show i < e.next + 1
      omega
  · by_cases hi : i = e.next
    · subst hi
      have hm := hb m' h1 h2 b hbk
      intro hr
      exact (List.nodup_append.1 h.nd).2.2 b hm b hr rfl
    · have hbk' : blk e.objs m i = some b := by
        rw [← blk_le hle (fun i o hf => (hok0.objs i o hf).1)]
        have hbk : blk ((e.next, o) :: e.objs) m' i = some b := hbk
        unfold blk at hbk ⊢
        rw [find_cons, if_neg fun q => hi q.symm] at hbk
        exact hbk
      exact fun hr => h.dis i b hbk' (List.mem_append_right _ hr)
theorem Cur.slot {rest : List Nat} (h : Cur w0 G0 N m e tm rest) {s : Nat} {sv : SV} {v : Value} (hs : tm[s]? = some v) (hv : Sv m sv v) : Cur w0 G0 N m (e.set s sv) tm rest :=
  ⟨h.rel.reset hs hv, h.fresh, h.dis, h.nd, h.bl⟩
theorem rowAt_slice {w : World} {G : Nat → Prop} {T : Nat} {t : Ty} {xs : List t.den} {v : Value} (h : RowAt w G T t xs v) : ∃ A n c, v = .slice A n c := by
  rcases h with ⟨e, _⟩ | ⟨b, c, cs, e, _⟩
  · exact ⟨_, _, _, e⟩
  · exact ⟨_, _, _, e⟩
theorem Cur.row {T : Nat} {t : Ty} {xs : List t.den} {v : Value} {rest : List Nat} (h : Cur w0 G0 N m e tm (v.ownBlock.toList ++ rest)) (hr : RowAt m.w m.G T t xs v) :
    ∃ m', Grow m m' ∧ Cur w0 G0 N m' (e.new (.row T t xs)) tm rest ∧ Lv m' (.row e.next) v := by
  obtain ⟨m', hg, _, h2, h3, hc⟩ := h.hold (.row T t xs) 0 v (fun m' _ h2 b hb => by
    unfold blk at hb
    rw [find_cons, if_pos rfl] at hb
    simp only [h2] at hb
    simp [hb]) (fun m' hg _ h2 _ => by
      show RowAt m'.w m'.G T t xs (m'.ν e.next)
      rw [h2, hg.w, hg.G]
      exact hr)
  exact ⟨m', hg, hc, h3, h2.symm, rowAt_slice hr⟩

theorem unpackVar_sound {own : List (Nat × Nat)} : ∀ (t : Ty) (n : Nat) (x : t.den) (m : St) (e : Env) (cs : List Value) (bl rest : List Nat), OwnCells m.w m.G own t n x cs bl → Cur w0 G0 N m e tm (bl ++ rest) →
    ∃ m', Grow m m' ∧ Cur w0 G0 N m' (unpackVar own e t x n).1 tm rest ∧ R2 (Lv m') (unpackVar own e t x n).2 cs
  | .int k, n, x, m, e, cs, bl, rest, ⟨h1, h2⟩, hc => by subst h2; exact ⟨m, .refl m, hc, Val.enc (t := .int k) h1⟩
  | .bool, n, x, m, e, cs, bl, rest, ⟨h1, h2⟩, hc => by subst h2; exact ⟨m, .refl m, hc, Val.enc (t := .bool) h1⟩
  | .str, n, x, m, e, cs, bl, rest, ⟨h1, h2⟩, hc => by subst h2; exact ⟨m, .refl m, hc, Val.enc (t := .str) h1⟩
  | .unit, n, x, m, e, cs, bl, rest, ⟨h1, h2⟩, hc => by subst h2; exact ⟨m, .refl m, hc, Val.enc (t := .unit) h1⟩
  | .any, n, x, m, e, cs, bl, rest, ⟨h1, h2⟩, hc => by subst h2; exact ⟨m, .refl m, hc, Val.enc (t := .any) h1⟩
  | .pair a b, n, x, m, e, cs, bl, rest, ⟨c1, c2, b1, b2, e1, e2, h1, h2⟩, hc => by
    subst e1; subst e2
    rw [List.append_assoc] at hc
    obtain ⟨m1, g1, hc1, r1⟩ := unpackVar_sound a n x.1 m e c1 b1 (b2 ++ rest) h1 hc
    have h2' : OwnCells m1.w m1.G own b (n + a.size) x.2 c2 b2 := by rw [g1.w, g1.G]; exact h2
    obtain ⟨m2, g2, hc2, r2⟩ := unpackVar_sound b (n + a.size) x.2 m1 _ c2 b2 rest h2' hc1
    exact ⟨m2, g1.trans g2, hc2, (r1.imp fun _ _ hx => Lv.le g2.le hx).append r2⟩
  | .sl t, n, xs, m, e, cs, bl, rest, h, hc => by
    unfold OwnCells at h
    unfold unpackVar
    cases ho : ownT own n with
    | none =>
      rw [ho] at h
      obtain ⟨h1, h2⟩ := h
      subst h2
      exact ⟨m, .refl m, hc, Val.enc (t := .sl t) h1⟩
    | some T =>
      rw [ho] at h
      obtain ⟨v, e1, h1, h2⟩ := h
      subst e1; subst h2
      obtain ⟨m', g, hc', hl⟩ := hc.row h1
      exact ⟨m', g, hc', hl, trivial⟩

theorem capsH_cp {m : St} : ∀ (ts : List Ty) (x : dens ts) (l : List Value), CapsH m.w m.G m.H ts x l → R2 (Cp m) (startCaps ts x) l
  | [], _, l, h => by simp only [CapsH] at h; subst h; trivial
  | t :: r, x, [], h => by simp [CapsH] at h
  | t :: r, x, v :: l, ⟨h1, h2⟩ => ⟨h1, capsH_cp r x.2 l h2⟩

theorem unpackItem_sound {a : Item} {x : a.den} {bl rest : List Nat} (h : PkItem m.w m.G m.H tm a x bl) (hc : Cur w0 G0 N m e tm (bl ++ rest)) :
    ∃ m', Grow m m' ∧ Cur w0 G0 N m' (unpackItem e a x) tm rest := by
  cases a with
  | val s t =>
    obtain ⟨v, hs, ⟨cs, hv, ha⟩, e1⟩ := h
    subst e1
    exact ⟨m, .refl m, hc.slot hs (sv_ofTy hv ha)⟩
  | el s t =>
    obtain ⟨v, hs, ⟨b, o, cs, e2, hH, hcl, hv⟩, e1⟩ := h
    subst e1
    exact ⟨m, .refl m, hc.slot hs (sv := .one (.el t x 0)) ⟨b, o, cs, e2, hH, hcl, hv⟩⟩
  | clo s f ts =>
    obtain ⟨cv, hs, hcv, e1⟩ := h
    subst e1
    exact ⟨m, .refl m, hc.slot hs (sv := .one (.clo f (startCaps ts x))) ⟨cv, rfl, capsH_cp ts x cv hcv⟩⟩
  | row s T t =>
    obtain ⟨v, hs, hr, e1⟩ := h
    subst e1
    obtain ⟨m', g, hc', hl⟩ := hc.row hr
    exact ⟨m', g, hc'.slot hs (sv := .one (.row e.next)) hl⟩
  | var s t own =>
    obtain ⟨b, cs, T, bl', hs, hh, ho, e1⟩ := h
    subst e1
    rw [List.append_assoc] at hc
    obtain ⟨m1, g1, hc1, r1⟩ := unpackVar_sound t 0 x m e cs bl' ([b] ++ rest) ho hc
    obtain ⟨m2, g2, h1, _, h3, hc2⟩ := hc1.hold (.var (unpackVar own e t x 0).2) b (.bool true) (fun m' h1 _ b' hb => by
      unfold blk at hb
      rw [find_cons, if_pos rfl] at hb
      simp only [h1, Option.some.injEq] at hb
      simp [hb]) (fun m' hg h1 _ _ => ⟨cs, T, by rw [h1, hg.w, g1.w]; exact hh, r1.imp fun _ _ hx => Lv.le hg.le hx⟩)
    exact ⟨m2, g1.trans g2, hc2.slot hs (sv := .one (.loc _ 0)) ⟨h3, by rw [h1]⟩⟩
theorem PkItem.grow {m' : St} (g : Grow m m') {a : Item} {x : a.den} {bl : List Nat} (h : PkItem m.w m.G m.H tm a x bl) : PkItem m'.w m'.G m'.H tm a x bl := by rw [g.w, g.G, g.H]; exact h
theorem PkAll.grow {m' : St} (g : Grow m m') {l : List Item} {x : Items.den l} {bl : List Nat} (h : PkAll m.w m.G m.H tm l x bl) : PkAll m'.w m'.G m'.H tm l x bl := by rw [g.w, g.G, g.H]; exact h
theorem unpackAll_sound : ∀ (l : List Item) (x : Items.den l) (m : St) (e : Env) (bl rest : List Nat), PkAll m.w m.G m.H tm l x bl → Cur w0 G0 N m e tm (bl ++ rest) →
    ∃ m', Grow m m' ∧ Cur w0 G0 N m' (unpackAll e l x) tm rest
  | [], x, m, e, bl, rest, h, hc => by
    simp only [PkAll] at h
    subst h
    exact ⟨m, .refl m, hc⟩
  | [a], x, m, e, bl, rest, h, hc => unpackItem_sound h hc
  | a :: b :: r, x, m, e, bl, rest, ⟨b1, b2, e1, h1, h2⟩, hc => by
    subst e1
    rw [List.append_assoc] at hc
    obtain ⟨m1, g1, hc1⟩ := unpackItem_sound h1 hc
    obtain ⟨m2, g2, hc2⟩ := unpackAll_sound (b :: r) x.2 m1 _ b2 rest (h2.grow g1) hc1
    exact ⟨m2, g1.trans g2, hc2⟩

theorem unpack_sound {w : World} {l : List Item} {y : Items.den l} (h : Packed w0 G0 N w l y tm) : ∃ m, m.w = w ∧ Rel w0 G0 N [] m (unpack l y) tm ∧ Fresh m (unpack l y) := by
  obtain ⟨G, H, bl, h1, h2, h3, h4, h5, h6, h7⟩ := h.ex
  let m : St := ⟨w, G, H, fun _ => 0, fun _ => .bool true, fun _ => False⟩
  have hok : ObjsOk w0 G0 m [] := ⟨h.base, fun i o hf => by simp [find] at hf, fun i j b hb => by simp [blk, find] at hb, fun i b hb => by simp [blk, find] at hb, h4, h5, h6, h7⟩
  have hc : Cur w0 G0 N m ⟨[], [], 0⟩ tm (bl ++ []) := by
    rw [List.append_nil]
    exact ⟨⟨hok, fun i o hf => by simp [find] at hf, h.size, fun t sv hf => by simp [find] at hf⟩, fun i hi => hi.elim, fun i b hb => by simp [blk, find] at hb, h2, h3⟩
  obtain ⟨m', g, hc'⟩ := unpackAll_sound l y m _ bl [] h1 hc
  exact ⟨m', g.w, hc'.rel, hc'.fresh⟩
end
end Go.Ev
end

section
/- Packing. -/
set_option linter.unusedSimpArgs false
set_option linter.unusedVariables false
namespace Go.Ev
open Go.RowKit (Below)

theorem memN_iff : ∀ (l : List Nat) (n : Nat), memN l n = true ↔ n ∈ l
  | [], n => by simp [memN]
  | a :: r, n => by
    simp only [memN]
    cases h : Nat.beq a n with
    | true => have := Nat.eq_of_beq_eq_true h; subst this; simp
    | false =>
      have hne : ¬ n = a := fun q => by subst q; simp at h
      simp [memN_iff r n, hne]
theorem nodupN_nodup : ∀ (l : List Nat), nodupN l = true → l.Nodup
  | [], _ => List.nodup_nil
  | a :: r, h => by
    simp only [nodupN] at h
    cases hm : memN r a with
    | true => simp [hm] at h
    | false =>
      simp only [hm] at h
      refine List.nodup_cons.2 ⟨fun hx => ?_, nodupN_nodup r h⟩
      rw [(memN_iff r a).2 hx] at hm
      cases hm
theorem find_eraseAll : ∀ (l : List Nat) (os : List (Nat × Obj)) (i : Nat), find (eraseAll l os) i = if i ∈ l then none else find os i
  | [], os, i => by simp [eraseAll]
  | a :: r, os, i => by
    simp only [eraseAll]
    rw [find_eraseAll r, find_erase (α := Nat)]
    by_cases h1 : i ∈ r
    · simp [h1]
    · by_cases h2 : a = i
      · subst h2; simp [h1]
      · have : ¬ i = a := fun q => h2 q.symm
        simp [h1, h2, this]
theorem ownIdsV_append (own : List (Nat × Nat)) : ∀ (a b : List V) (n : Nat), ownIdsV own n (a ++ b) = ownIdsV own n a ++ ownIdsV own (n + a.length) b
  | [], b, n => by simp [ownIdsV]
  | v :: a, b, n => by
    have ih := ownIdsV_append own a b (n + 1)
    have e : n + (v :: a).length = n + 1 + a.length := by simp; omega
    rw [e, List.cons_append]
    cases v <;> simp only [ownIdsV] <;> first | exact ih | (split <;> simp [ih])
theorem nodup_filterMap {f : Nat → Option Nat} : ∀ (l : List Nat), l.Nodup → (∀ i ∈ l, ∀ j ∈ l, ∀ b, f i = some b → f j = some b → i = j) → (l.filterMap f).Nodup
  | [], _, _ => by simp
  | a :: r, hn, h => by
    have hn' := List.nodup_cons.1 hn
    have ih := nodup_filterMap r hn'.2 fun i hi j hj => h i (List.mem_cons_of_mem _ hi) j (List.mem_cons_of_mem _ hj)
    rw [List.filterMap_cons]
    cases ha : f a with
    | none => exact ih
    | some b =>
      simp only
      refine List.nodup_cons.2 ⟨fun hm => ?_, ih⟩
      obtain ⟨j, hj, hb⟩ := List.mem_filterMap.1 hm
      have := h a List.mem_cons_self j (List.mem_cons_of_mem _ hj) b ha hb
      subst this
      exact hn'.1 hj

section
variable {P : Program} {w0 : World} {G0 : Nat → Prop} {N : Nat} {m : St} {e : Env} {tm : Array Value} {os ov : List (Nat × Obj)} {own : List (Nat × Nat)} {G H : Nat → Prop}

theorem decOwn_sound (ho : ∀ i o, find os i = some o → Ob m i o) (hov : ∀ i o, find ov i = some o → Ob m i o) (hG : ∀ b, m.G b → G b)
    (hR : ∀ i T u xs a n c, find ov i = some (.row T u xs) → m.ν i = .slice (some a) n c → G a.block) :
    ∀ (t : Ty) (n : Nat) (vs : List V) (x : t.den) (r : List V) (cs : List Value), decOwn os ov own t n vs = some (x, r) → R2 (Lv m) vs cs →
      ∃ vs1 c1 c2, vs = vs1 ++ r ∧ cs = c1 ++ c2 ∧ vs1.length = t.size ∧ OwnCells m.w G own t n x c1 ((ownIdsV own n vs1).filterMap (blk os m)) ∧ R2 (Lv m) r c2
  | .int k, n, vs, x, r, cs, h, hl => by
    simp only [decOwn] at h
    obtain ⟨c1, c2, e1, h1, h2⟩ := dec_val (st := false) hov hG (fun _ => hR) (.int k) vs x r cs h hl
    cases vs with
    | nil => simp [dec] at h
    | cons v l =>
      cases v with
      | i j y =>
        simp only [dec] at h
        cases hk : kEq k j with
        | false => simp [hk] at h
        | true =>
          simp only [hk, Option.some.injEq, Prod.mk.injEq] at h
          obtain ⟨_, rfl⟩ := h
          exact ⟨[_], c1, c2, rfl, e1, rfl, ⟨h1, rfl⟩, h2⟩
      | _ => simp [dec] at h
  | .bool, n, vs, x, r, cs, h, hl => by
    simp only [decOwn] at h
    obtain ⟨c1, c2, e1, h1, h2⟩ := dec_val (st := false) hov hG (fun _ => hR) .bool vs x r cs h hl
    cases vs with
    | nil => simp [dec] at h
    | cons v l =>
      cases v with
      | b y =>
        simp only [dec, Option.some.injEq, Prod.mk.injEq] at h
        obtain ⟨_, rfl⟩ := h
        exact ⟨[_], c1, c2, rfl, e1, rfl, ⟨h1, rfl⟩, h2⟩
      | _ => simp [dec] at h
  | .str, n, vs, x, r, cs, h, hl => by
    simp only [decOwn] at h
    obtain ⟨c1, c2, e1, h1, h2⟩ := dec_val (st := false) hov hG (fun _ => hR) .str vs x r cs h hl
    cases vs with
    | nil => simp [dec] at h
    | cons v l =>
      cases v with
      | s y =>
        simp only [dec, Option.some.injEq, Prod.mk.injEq] at h
        obtain ⟨_, rfl⟩ := h
        exact ⟨[_], c1, c2, rfl, e1, rfl, ⟨h1, rfl⟩, h2⟩
      | _ => simp [dec] at h
  | .unit, n, vs, x, r, cs, h, hl => by
    simp only [decOwn, dec, Option.some.injEq, Prod.mk.injEq] at h
    obtain ⟨_, rfl⟩ := h
    exact ⟨[], [], cs, rfl, rfl, rfl, ⟨rfl, rfl⟩, hl⟩
  | .any, n, vs, x, r, cs, h, hl => by
    simp only [decOwn] at h
    obtain ⟨c1, c2, e1, h1, h2⟩ := dec_val (st := false) hov hG (fun _ => hR) .any vs x r cs h hl
    cases vs with
    | nil => simp [dec] at h
    | cons v l =>
      cases v with
      | any =>
        simp only [dec, Option.some.injEq, Prod.mk.injEq] at h
        obtain ⟨_, rfl⟩ := h
        exact ⟨[_], c1, c2, rfl, e1, rfl, ⟨h1, rfl⟩, h2⟩
      | _ => simp [dec] at h
  | .pair a b, n, vs, x, r, cs, h, hl => by
    simp only [decOwn] at h
    cases h1 : decOwn os ov own a n vs with
    | none => simp [h1] at h
    | some p =>
      obtain ⟨x1, r1⟩ := p
      simp only [h1] at h
      cases h2 : decOwn os ov own b (n + a.size) r1 with
      | none => simp [h2] at h
      | some p =>
        obtain ⟨x2, r2⟩ := p
        simp only [h2, Option.some.injEq, Prod.mk.injEq] at h
        obtain ⟨rfl, rfl⟩ := h
        obtain ⟨v1, c1, c2, rfl, rfl, l1, o1, q1⟩ := decOwn_sound ho hov hG hR a n vs x1 r1 cs h1 hl
        obtain ⟨v2, c3, c4, rfl, rfl, l2, o2, q2⟩ := decOwn_sound ho hov hG hR b (n + a.size) _ x2 r2 c2 h2 q1
        refine ⟨v1 ++ v2, c1 ++ c3, c4, by simp, by simp, by simp [l1, l2, Ty.size], ⟨c1, c3, _, _, rfl, ?_, o1, o2⟩, q2⟩
        rw [ownIdsV_append, List.filterMap_append, l1]
  | .sl t, n, vs, x, r, cs, h, hl => by
    cases vs with
    | nil => simp [decOwn, dec] at h
    | cons v l =>
      cases cs with
      | nil => exact absurd hl (by simp [R2])
      | cons c cs =>
        simp only [decOwn] at h
        cases hT : ownT own n with
        | none =>
          rw [hT] at h
          simp only at h
          obtain ⟨c1, c2, e1, h1, h2⟩ := dec_val (st := false) hov hG (fun _ => hR) (.sl t) (v :: l) x r (c :: cs) h hl
          have hlen := h2.length
          have hl1 := hl.length
          have hc1 := h1.length
          have hr : r = l := by
            cases v <;> simp only [dec] at h <;> first
              | (simp at h; done)
              | (split at h <;> first | (simp at h; done) | (simp only [Option.some.injEq, Prod.mk.injEq] at h; exact h.2.symm) | (split at h <;> first | (simp at h; done) | (simp only [Option.some.injEq, Prod.mk.injEq] at h; exact h.2.symm)))
              | (simp only [Option.some.injEq, Prod.mk.injEq] at h; exact h.2.symm)
          subst hr
          refine ⟨[v], c1, c2, rfl, e1, rfl, ?_, h2⟩
          unfold OwnCells
          rw [hT]
          refine ⟨h1, ?_⟩
          cases v <;> simp [ownIdsV, hT]
        | some T =>
          rw [hT] at h
          simp only at h
          cases hr : ownRow os T t v with
          | none => simp [hr] at h
          | some xs =>
            simp only [hr, Option.some.injEq, Prod.mk.injEq] at h
            obtain ⟨rfl, rfl⟩ := h
            refine ⟨[v], [c], cs, rfl, rfl, rfl, ?_, hl.2⟩
            unfold OwnCells
            rw [hT]
            have hlv := hl.1
            cases v with
            | nil =>
              simp only [ownRow, Option.some.injEq] at hr
              subst hr
              simp only [Lv] at hlv
              subst hlv
              exact ⟨_, rfl, .inl ⟨rfl, rfl⟩, rfl⟩
            | row id =>
              simp only [ownRow] at hr
              obtain ⟨_, e1, _⟩ := hlv
              cases hf : find os id with
              | none => simp [hf] at hr
              | some o =>
                cases o with
                | row U u ys =>
                  simp only [hf] at hr
                  cases hU : Nat.beq U T with
                  | false => simp [hU] at hr
                  | true =>
                    simp only [hU] at hr
                    have := Nat.eq_of_beq_eq_true hU
                    subst this
                    obtain ⟨e2, e3⟩ := cast?_some hr
                    cases e2
                    subst e3
                    have hob := ho id _ hf
                    refine ⟨c, rfl, ?_, ?_⟩
                    · rw [e1]
                      exact RowAt.mono (fun b hb => ⟨hG b hb, rfl⟩) hob fun _ _ _ _ => rfl
                    · rw [e1]
                      simp only [ownIdsV, hT, List.filterMap_cons, List.filterMap_nil, blk, hf]
                      cases (m.ν id).ownBlock <;> rfl
                | _ => simp [hf] at hr
            | _ => simp [ownRow] at hr

theorem bindCaps_capsH (ho : ∀ i o, find os i = some o → Ob m i o) (hG : ∀ b, m.G b → G b) (hH : ∀ b, m.H b → H b)
    (hR : ∀ i T u xs a n c, find os i = some (.row T u xs) → m.ν i = .slice (some a) n c → G a.block) (hV : ∀ i vs, find os i = some (.var vs) → H (m.β i)) :
    ∀ (ts : List Ty) (cs : List Cap) (x : dens ts) (l : List Value), bindCaps false os ts cs = some x → R2 (Cp m) cs l → CapsH m.w G H ts x l
  | [], [], x, l, h, hl => by
    cases l with
    | nil => rfl
    | cons => exact absurd hl (by simp [R2])
  | t :: r, c :: cs, x, l, h, hl => by
    cases l with
    | nil => exact absurd hl (by simp [R2])
    | cons v l =>
      obtain ⟨h1, h2⟩ := hl
      simp only [bindCaps] at h
      cases hx : capTy false os t c with
      | none => simp [hx] at h
      | some y =>
        cases hy : bindCaps false os r cs with
        | none => simp [hx, hy] at h
        | some z =>
          simp only [hx, hy, Option.some.injEq] at h
          subst h
          refine ⟨?_, bindCaps_capsH ho hG hH hR hV r cs z l hy h2⟩
          cases c with
          | loc id =>
            simp only [capTy, varTy] at hx
            cases hf : find os id with
            | none => simp [hf] at hx
            | some o =>
              have hob := ho id o hf
              cases o with
              | var vs =>
                simp only [hf] at hx
                obtain ⟨ds, T, hh, hr⟩ := hob
                exact ⟨m.β id, 0, ds, h1.2, hV id vs hf, cells_of_heap hh, decCells_val ho hG (fun _ => hR) hx hr⟩
              | _ => simp [hf] at hx
          | el u z =>
            obtain ⟨b, o, ds, e1, hb, hc, hv⟩ := h1
            exact ⟨b, o, ds, e1, hH b hb, hc, Val.cast hx (Val.mono (fun b hb => ⟨hG b hb, rfl⟩) _ _ _ hv)⟩
  | [], _ :: _, x, l, h, hl => by simp [bindCaps] at h
  | _ :: _, [], x, l, h, hl => by simp [bindCaps] at h

theorem packItem_sound (hR : Rel w0 G0 N [] m e tm) (hov : ∀ i o, find ov i = some o → find e.objs i = some o) (hG : ∀ b, m.G b → G b) (hH : ∀ b, m.H b → H b)
    (hRow : ∀ i T u xs a n c, find ov i = some (.row T u xs) → m.ν i = .slice (some a) n c → G a.block) (hV : ∀ i vs, find ov i = some (.var vs) → H (m.β i))
    {a : Item} {x : a.den} (h : packItem e ov a = some x) : PkItem m.w G H tm a x ((ownIds e a).filterMap (blk e.objs m)) := by
  have hob : ∀ i o, find e.objs i = some o → Ob m i o := fun i o hf => (hR.obj i o hf).2
  have hobv : ∀ i o, find ov i = some o → Ob m i o := fun i o hf => hob i o (hov i o hf)
  cases a with
  | val s t =>
    simp only [packItem] at h
    cases hs : e.get s with
    | none => simp [hs] at h
    | some sv =>
      simp only [hs] at h
      obtain ⟨v, hv, hsv⟩ := hR.slots s sv hs
      obtain ⟨cs, h1, h2⟩ := decAll_val (st := false) hobv hG (fun _ => hRow) h hsv
      exact ⟨v, hv, ⟨cs, h1, h2⟩, rfl⟩
  | el s t =>
    simp only [packItem] at h
    cases hs : e.get s with
    | none => simp [hs] at h
    | some sv =>
      obtain ⟨v, hv, hsv⟩ := hR.slots s sv hs
      cases sv with
      | one y =>
        cases y with
        | el u z off =>
          cases off with
          | succ => simp [hs] at h
          | zero =>
            simp only [hs] at h
            obtain ⟨b, o, cs, e1, hb, hc, hval⟩ := hsv
            exact ⟨v, hv, ⟨b, o, cs, by simpa using e1, hH b hb, hc, Val.cast h (Val.mono (fun b hb => ⟨hG b hb, rfl⟩) _ _ _ hval)⟩, rfl⟩
        | loc id off =>
          cases off with
          | succ => simp [hs] at h
          | zero =>
            simp only [hs, varTy] at h
            cases hf : find ov id with
            | none => simp [hf] at h
            | some o =>
              have hobi := hobv id o hf
              cases o with
              | var vs =>
                simp only [hf] at h
                obtain ⟨ds, T, hh, hr⟩ := hobi
                obtain ⟨_, e1⟩ := hsv
                exact ⟨v, hv, ⟨m.β id, 0, ds, e1, hV id vs hf, cells_of_heap hh, decCells_val hobv hG (fun _ => hRow) h hr⟩, rfl⟩
              | _ => simp [hf] at h
        | _ => simp [hs] at h
      | _ => simp [hs] at h
  | clo s f ts =>
    simp only [packItem] at h
    cases hs : e.get s with
    | none => simp [hs] at h
    | some sv =>
      obtain ⟨v, hv, hsv⟩ := hR.slots s sv hs
      cases sv with
      | one y =>
        cases y with
        | clo g caps =>
          simp only [hs] at h
          cases hg : Nat.beq f g with
          | false => simp [hg] at h
          | true =>
            simp only [hg] at h
            have := Nat.eq_of_beq_eq_true hg
            subst this
            obtain ⟨cv, e1, hc⟩ := hsv
            subst e1
            exact ⟨cv, hv, bindCaps_capsH hobv hG hH hRow hV ts caps x cv h hc, rfl⟩
        | _ => simp [hs] at h
      | _ => simp [hs] at h
  | row s T t =>
    simp only [packItem] at h
    cases hs : e.get s with
    | none => simp [hs] at h
    | some sv =>
      obtain ⟨v, hv, hsv⟩ := hR.slots s sv hs
      cases sv with
      | one y =>
        simp only [hs] at h
        cases y with
        | nil =>
          simp only [ownRow, Option.some.injEq] at h
          subst h
          have : v = .slice none 0 0 := hsv
          subst this
          refine ⟨_, hv, .inl ⟨rfl, rfl⟩, ?_⟩
          simp [ownIds, hs, Value.ownBlock]
        | row id =>
          simp only [ownRow] at h
          obtain ⟨_, e1, _⟩ := hsv
          cases hf : find e.objs id with
          | none => simp [hf] at h
          | some o =>
            cases o with
            | row U u ys =>
              simp only [hf] at h
              cases hU : Nat.beq U T with
              | false => simp [hU] at h
              | true =>
                simp only [hU] at h
                have := Nat.eq_of_beq_eq_true hU
                subst this
                obtain ⟨e2, e3⟩ := cast?_some h
                cases e2
                subst e3
                refine ⟨v, hv, ?_, ?_⟩
                · rw [e1]
                  exact RowAt.mono (fun b hb => ⟨hG b hb, rfl⟩) (hob id _ hf) fun _ _ _ _ => rfl
                · rw [e1]
                  simp only [ownIds, hs, List.filterMap_cons, List.filterMap_nil, blk, hf]
                  cases (m.ν id).ownBlock <;> rfl
            | _ => simp [hf] at h
        | _ => simp [ownRow] at h
      | _ => simp [hs] at h
  | var s t own =>
    simp only [packItem] at h
    cases hs : e.get s with
    | none => simp [hs] at h
    | some sv =>
      obtain ⟨v, hv, hsv⟩ := hR.slots s sv hs
      cases sv with
      | one y =>
        cases y with
        | loc id off =>
          cases off with
          | succ => simp [hs] at h
          | zero =>
            simp only [hs] at h
            cases ho : e.obj id with
            | none => simp [ho] at h
            | some o =>
              cases o with
              | var vs =>
                simp only [ho] at h
                cases hd : decOwn e.objs ov own t 0 vs with
                | none => simp [hd] at h
                | some p =>
                  obtain ⟨z, r⟩ := p
                  cases r with
                  | cons => simp [hd] at h
                  | nil =>
                    simp only [hd, Option.some.injEq] at h
                    subst h
                    have ho' : find e.objs id = some (.var vs) := ho
                    obtain ⟨cs, T, hh, hr⟩ := hob id _ ho'
                    obtain ⟨vs1, c1, c2, e1, e2, _, h1, h2⟩ := decOwn_sound hob hobv hG hRow t 0 vs z [] cs hd hr
                    have hc2 : c2 = [] := by cases c2 with
                      | nil => rfl
                      | cons => exact absurd h2 (by simp [R2])
                    subst hc2
                    rw [List.append_nil] at e1 e2
                    subst e1; subst e2
                    obtain ⟨_, e3⟩ := hsv
                    subst e3
                    refine ⟨m.β id, cs, T, _, hv, hh, h1, ?_⟩
                    simp only [ownIds, hs, ho, List.filterMap_append, List.filterMap_cons, List.filterMap_nil, blk, ho']
              | _ => simp [ho] at h
        | _ => simp [hs] at h
      | _ => simp [hs] at h
theorem packAll_sound (hR : Rel w0 G0 N [] m e tm) (hov : ∀ i o, find ov i = some o → find e.objs i = some o) (hG : ∀ b, m.G b → G b) (hH : ∀ b, m.H b → H b)
    (hRow : ∀ i T u xs a n c, find ov i = some (.row T u xs) → m.ν i = .slice (some a) n c → G a.block) (hV : ∀ i vs, find ov i = some (.var vs) → H (m.β i)) :
    ∀ (l : List Item) (x : Items.den l), packAll e ov l = some x → PkAll m.w G H tm l x ((ownAll e l).filterMap (blk e.objs m))
  | [], x, h => rfl
  | [a], x, h => by
    simp only [packAll] at h
    have := packItem_sound hR hov hG hH hRow hV h
    simp only [ownAll, List.append_nil]
    exact this
  | a :: b :: r, x, h => by
    simp only [packAll] at h
    cases h1 : packItem e ov a with
    | none => simp [h1] at h
    | some y =>
      cases h2 : packAll e ov (b :: r) with
      | none => simp [h1, h2] at h
      | some z =>
        simp only [h1, h2, Option.some.injEq] at h
        subst h
        refine ⟨_, _, ?_, packItem_sound hR hov hG hH hRow hV h1, packAll_sound hR hov hG hH hRow hV (b :: r) z h2⟩
        rw [← List.filterMap_append]
        rfl

theorem pack_sound (hR : Rel w0 G0 N [] m e tm) {l : List Item} {y : Items.den l} (h : pack e l = some y) : Packed w0 G0 N m.w l y tm := by
  unfold pack at h
  cases hn : nodupN (ownAll e l) with
  | false => simp [hn] at h
  | true =>
    simp only [hn] at h
    have hnd := nodupN_nodup _ hn
    have hok : ObjsOk w0 G0 m e.objs := by have := hR.ok; rwa [List.append_nil] at this
    have hfo : ∀ i o, find (eraseAll (ownAll e l) e.objs) i = some o → i ∉ ownAll e l ∧ find e.objs i = some o := by
      intro i o hf
      rw [find_eraseAll] at hf
      by_cases hi : i ∈ ownAll e l
      · simp [hi] at hf
      · simp only [hi, if_false] at hf
        exact ⟨hi, hf⟩
    refine ⟨hR.tms, hok.base, fun b => m.G b ∨ ∃ i T t xs, find (eraseAll (ownAll e l) e.objs) i = some (.row T t xs) ∧ blk e.objs m i = some b,
      fun b => m.H b ∨ ∃ i o, find (eraseAll (ownAll e l) e.objs) i = some o ∧ blk e.objs m i = some b, _, packAll_sound hR (fun i o hf => (hfo i o hf).2) (fun b hb => .inl hb) (fun b hb => .inl hb) ?_ ?_ l y h, ?_, ?_, ?_, ?_, ?_, ?_⟩
    · intro i T u xs a n c hf hν
      exact .inr ⟨i, T, u, xs, hf, by simp [blk, (hfo i _ hf).2, hν, Value.ownBlock]⟩
    · intro i vs hf
      exact .inr ⟨i, _, hf, by simp [blk, (hfo i _ hf).2]⟩
    · exact nodup_filterMap _ hnd fun i _ j _ b h1 h2 => hok.inj i j b h1 h2
    · intro b hb
      obtain ⟨i, hi, hbk⟩ := List.mem_filterMap.1 hb
      obtain ⟨o1, o2, o3, o4⟩ := hok.out i b hbk
      refine ⟨fun hg => ?_, fun hg => ?_, o3, o4⟩
      · rcases hg with hg | ⟨j, T, t, xs, hf, hj⟩
        · exact o1 hg
        · have := hok.inj i j b hbk hj
          subst this
          exact (hfo i _ hf).1 hi
      · rcases hg with hg | ⟨j, o, hf, hj⟩
        · exact o2 hg
        · have := hok.inj i j b hbk hj
          subst this
          exact (hfo i _ hf).1 hi
    · intro b hb
      rcases hb with hb | ⟨j, T, t, xs, hf, hj⟩
      · exact hok.liveG b hb
      · exact (hok.out j b hj).2.2.1
    · intro b hb
      rcases hb with hb | ⟨j, o, hf, hj⟩
      · exact hok.liveH b hb
      · exact (hok.out j b hj).2.2.1
    · intro b hb
      rcases hb with hb | ⟨j, T, t, xs, hf, hj⟩
      · exact hok.subG b hb
      · exact .inr (hok.out j b hj).2.2.2
    · intro b hb
      rcases hb with hb | ⟨j, T, t, xs, hf, hj⟩
      · exact .inl (hok.gh b hb)
      · exact .inr ⟨j, _, hf, hj⟩
end
end Go.Ev
end

section
/- A body's code. -/
set_option linter.unusedSimpArgs false
set_option linter.unusedVariables false
namespace Go.Ev
open Go.RowKit (Below)

theorem wp_loop_fuel {P : Program} {Q : Exit → Act → World → Prop} {c : Code} (I : Nat → Act → World → Prop)
    (round : ∀ n a w, I n a w → c.wp P (Exit.then (fun a' w' => ∃ n', n' < n ∧ I n' a' w') Q) a w) {n : Nat} {a : Act} {w : World} (h₀ : I n a w) : (Code.loop c).wp P Q a w := by
  intro b k cs
  have key : ∀ n a w, I n a w → ∃ e a' w', Q e a' w' ∧ Arrives P (lone (b.at a (.code c :: .inLoop c :: k)) cs w) b k cs e a' w' := by
    intro n
    induction n using Nat.strongRecOn with
    | _ n ih =>
      intro a w hI
      obtain ⟨e, a₁, w₁, hq, harr⟩ := round n a w hI b (.inLoop c :: k) cs
      cases e with
      | normal =>
        obtain ⟨n', hlt, hI₁⟩ := hq
        obtain ⟨e₂, a₂, w₂, hq₂, harr₂⟩ := ih n' hlt a₁ w₁ hI₁
        exact ⟨e₂, a₂, w₂, hq₂, .of_steps (Steps.trans harr (.one step_inLoop)) harr₂⟩
      | exit id => exact ⟨_, a₁, w₁, hq, .pass (x := .inLoop c) rfl (fun _ _ => .inl (by simp)) harr⟩
      | goto l => exact ⟨_, a₁, w₁, hq, .pass (x := .inLoop c) rfl (fun _ _ => .inl (by simp)) harr⟩
      | ret => exact ⟨_, a₁, w₁, hq, .pass (x := .inLoop c) rfl (fun _ _ => .inl (by simp)) harr⟩
      | panic ch => exact ⟨_, a₁, w₁, hq, .pass (x := .inLoop c) rfl (fun _ _ => .inl (by simp)) harr⟩
      | outgrown => exact ⟨_, a₁, w₁, hq, .pass (x := .inLoop c) rfl (fun _ _ => .inl (by simp)) harr⟩
  obtain ⟨e, a', w', hq, harr⟩ := key n a w h₀
  exact ⟨e, a', w', hq, .of_steps (.one step_loop) harr⟩

def allDst (N : Nat) : List Oper → Bool
  | [] => true
  | o :: r => match dstOk N o.dst with
    | true => allDst N r
    | false => false
theorem allDst_mem {N : Nat} : ∀ {l : List Oper}, allDst N l = true → ∀ o ∈ l, dstOk N o.dst = true
  | [], _, o, h => by simp at h
  | p :: r, h, o, hm => by
    simp only [allDst] at h
    cases hp : dstOk N p.dst with
    | false => simp [hp] at h
    | true =>
      simp only [hp] at h
      rcases List.mem_cons.1 hm with e | e
      · subst e; exact hp
      · exact allDst_mem h o e
def codeDst (N : Nat) : Code → Bool
  | .region _ ops _ => allDst N ops.toList
  | .seq a b => match codeDst N a with
    | true => codeDst N b
    | false => false
  | .cond _ a b => match codeDst N a with
    | true => codeDst N b
    | false => false
  | .block _ c => codeDst N c
  | .loop c => codeDst N c
  | .scope c => codeDst N c
  | _ => true
theorem both {a b : Bool} (h : (match a with
    | true => b
    | false => false) = true) : a = true ∧ b = true := by cases a <;> cases b <;> simp_all

/-- What is known at an end of a piece of code. -/
def Post (w0 : World) (G0 : Nat → Prop) (N : Nat) {ρ σ : Type} (fin : Env → Option ρ) (ι : ρ → Option σ) (K : Ex → Env → Option σ) (r : σ) : Exit → Act → World → Prop
  | .normal, a, w => ∃ m e, m.w = w ∧ a.defers = [] ∧ Rel w0 G0 N [] m e a.tmps ∧ Fresh m e ∧ K .normal e = some r
  | .exit i, a, w => ∃ m e, m.w = w ∧ a.defers = [] ∧ Rel w0 G0 N [] m e a.tmps ∧ Fresh m e ∧ K (.exit i) e = some r
  | .ret, a, w => ∃ m e z, m.w = w ∧ a.defers = [] ∧ Rel w0 G0 N [] m e a.tmps ∧ fin e = some z ∧ ι z = some r
  | _, _, _ => False

/-- A region in any order. -/
def DrawSound (P : Program) (w0 : World) (Γ : Tab) (Δ : List (Nat × Con)) : Prop := ∀ {G0 : Nat → Prop} {N : Nat} {m : St} {e : Env} {tm : Array Value} {k id : Nat} {ρ : Type} {ops : Array Oper} {K : Env → Option ρ} {r : ρ} {Q : Exit → Act → World → Prop},
    (∀ o ∈ ops.toList, dstOk N o.dst = true) → slotsOk ops.toList (ancs 0 ops.toList []) 0 ops.toList = true → Rel w0 G0 N [] m e tm → Fresh m e → evOpsD Γ Δ k ops.toList (ancs 0 ops.toList []) ops.toList 0 [] e K = some r →
    (∀ m' e' tm', Rel w0 G0 N [] m' e' tm' → Fresh m' e' → K e' = some r → Q .normal ⟨tm', []⟩ m'.w) → (Code.region id ops true).wp P Q ⟨tm, []⟩ m.w

section
variable {P : Program} {w0 : World} {G0 : Nat → Prop} {N : Nat} {Γ : Tab} {Δ : List (Nat × Con)} {A : Ann} {ρ : Type} {fin : Env → Option ρ}

theorem toJoin_some {σ : Type} {its : List Item} {e : Env} {f : Items.den its → Option σ} {r : σ} (h : toJoin its e f = some r) : ∃ y, pack e its = some y ∧ f y = some r := by
  unfold toJoin at h
  cases hp : pack e its with
  | none => simp [hp] at h
  | some y => simp only [hp] at h; exact ⟨y, rfl, h⟩

theorem act_eta {a : Act} (h : a.defers = []) : a = ⟨a.tmps, []⟩ := by cases a; simp only at h; subst h; rfl

/-- A piece of code is sound. -/
def Sound (P : Program) (w0 : World) (G0 : Nat → Prop) (N : Nat) {ρ : Type} (fin : Env → Option ρ) (c : Code) (run : Run ρ) : Prop :=
  ∀ {σ : Type} (ι : ρ → Option σ) (K : Ex → Env → Option σ) (e : Env) (r : σ) (m : St) (tm : Array Value), Rel w0 G0 N [] m e tm → Fresh m e → run ι e K = some r → c.wp P (Post w0 G0 N fin ι K r) ⟨tm, []⟩ m.w

theorem loopQ_sound {id : Nat} {its js : List Item} {body : Code} {run : Nat → Run ρ} (hb : ∀ k, Sound P w0 G0 N fin body (run k)) {k : Nat} {x : Items.den its} {y : Items.den js} {tm : Array Value} {w : World} (hx : Packed w0 G0 N w its x tm)
    (h : loopQ id its js run k x = some y) {Q : Exit → Act → World → Prop} (hQ : ∀ tm' w', Packed w0 G0 N w' js y tm' → Q .normal ⟨tm', []⟩ w') : (Code.block id (.loop body)).wp P Q ⟨tm, []⟩ w := by
  refine wp_block (wp_loop_fuel (fun n a w => a.defers = [] ∧ ∃ x, Packed w0 G0 N w its x a.tmps ∧ loopQ id its js run n x = some y) ?_ (n := k) ⟨rfl, x, hx, h⟩)
  intro n a w ⟨hd, x, hx, h⟩
  cases n with
  | zero => simp [loopQ] at h
  | succ n =>
    simp only [loopQ, stepQ] at h
    obtain ⟨m, hw, hR, hf⟩ := unpack_sound hx
    rw [act_eta hd, ← hw]
    refine wp_mono (hb n _ _ _ _ m a.tmps hR hf h) ?_
    intro ex a' w' hp
    cases ex with
    | normal =>
      obtain ⟨m', e', rfl, hd', hR', hf', hK⟩ := hp
      obtain ⟨x', hp', hl⟩ := toJoin_some hK
      exact ⟨n, Nat.lt_succ_self n, hd', x', pack_sound hR' hp', hl⟩
    | exit i =>
      obtain ⟨m', e', rfl, hd', hR', hf', hK⟩ := hp
      simp only at hK
      cases hi : Nat.beq i id with
      | false => simp [hi] at hK
      | true =>
        simp only [hi] at hK
        have := Nat.eq_of_beq_eq_true hi
        subst this
        obtain ⟨y', hp', hl⟩ := toJoin_some hK
        obtain rfl := Option.some.inj hl
        simp only [Exit.then, Exit.inBlock, if_pos]
        rw [act_eta hd']
        exact hQ _ _ (pack_sound hR' hp')
    | ret =>
      obtain ⟨m', e', z, _, _, _, _, hz⟩ := hp
      simp at hz
    | _ => exact hp.elim

theorem loopR_sound {id : Nat} {its js : List Item} {body : Code} {run : Nat → Run ρ} (hb : ∀ k, Sound P w0 G0 N fin body (run k)) {k : Nat} {x : Items.den its} {y : Items.den js ⊕ ρ} {tm : Array Value} {w : World} (hx : Packed w0 G0 N w its x tm)
    (h : loopR id its js run k x = some y) {Q : Exit → Act → World → Prop} (hQ : ∀ z, y = .inl z → ∀ tm' w', Packed w0 G0 N w' js z tm' → Q .normal ⟨tm', []⟩ w')
    (hQr : ∀ z, y = .inr z → ∀ m e tm', Rel w0 G0 N [] m e tm' → fin e = some z → Q .ret ⟨tm', []⟩ m.w) : (Code.block id (.loop body)).wp P Q ⟨tm, []⟩ w := by
  refine wp_block (wp_loop_fuel (fun n a w => a.defers = [] ∧ ∃ x, Packed w0 G0 N w its x a.tmps ∧ loopR id its js run n x = some y) ?_ (n := k) ⟨rfl, x, hx, h⟩)
  intro n a w ⟨hd, x, hx, h⟩
  cases n with
  | zero => simp [loopR] at h
  | succ n =>
    simp only [loopR, stepR] at h
    obtain ⟨m, hw, hR, hf⟩ := unpack_sound hx
    rw [act_eta hd, ← hw]
    refine wp_mono (hb n _ _ _ _ m a.tmps hR hf h) ?_
    intro ex a' w' hp
    cases ex with
    | normal =>
      obtain ⟨m', e', rfl, hd', hR', hf', hK⟩ := hp
      obtain ⟨x', hp', hl⟩ := toJoin_some hK
      exact ⟨n, Nat.lt_succ_self n, hd', x', pack_sound hR' hp', hl⟩
    | exit i =>
      obtain ⟨m', e', rfl, hd', hR', hf', hK⟩ := hp
      simp only at hK
      cases hi : Nat.beq i id with
      | false => simp [hi] at hK
      | true =>
        simp only [hi] at hK
        have := Nat.eq_of_beq_eq_true hi
        subst this
        obtain ⟨y', hp', hl⟩ := toJoin_some hK
        simp only [Exit.then, Exit.inBlock, if_pos]
        rw [act_eta hd']
        exact hQ y' (Option.some.inj hl).symm _ _ (pack_sound hR' hp')
    | ret =>
      obtain ⟨m', e', z, rfl, hd', hR', hz, he⟩ := hp
      simp only [Exit.then, Exit.inBlock]
      rw [act_eta hd']
      exact hQr z (Option.some.inj he).symm m' e' _ hR' hz
    | _ => exact hp.elim

theorem loop_sound {id : Nat} {body : Code} (ih : ∀ k, Sound P w0 G0 N fin body (fun ι e K => evCode Γ Δ A fin body k ι e K)) (k : Nat) : Sound P w0 G0 N fin (.block id (.loop body)) (fun ι e K => evCode Γ Δ A fin (.block id (.loop body)) k ι e K) := by
    intro σ ι K e r m tm hR hf h
    simp only [evCode] at h
    cases hl : find A.loops id with
    | none => simp [hl] at h
    | some p =>
      obtain ⟨its, j⟩ := p
      simp only [hl] at h
      obtain ⟨x, hp, h⟩ := toJoin_some h
      cases hq : j.quiet with
      | true =>
        rw [hq] at h
        simp only at h
        obtain ⟨y, h1, h2⟩ := bnd_some h
        refine loopQ_sound (fun k => ih k) (pack_sound hR hp) h1 ?_
        intro tm' w' hpk
        obtain ⟨m2, hw, hR2, hf2⟩ := unpack_sound hpk
        exact ⟨m2, _, hw, rfl, hR2, hf2, h2⟩
      | false =>
        rw [hq] at h
        simp only at h
        obtain ⟨y, h1, h2⟩ := bnd_some h
        refine loopR_sound (fun k => ih k) (pack_sound hR hp) h1 ?_ ?_
        · intro z hz tm' w' hpk
          subst hz
          obtain ⟨m2, hw, hR2, hf2⟩ := unpack_sound hpk
          exact ⟨m2, _, hw, rfl, hR2, hf2, h2⟩
        · intro z hz m2 e2 tm' hR2 hfin
          subst hz
          exact ⟨m2, e2, z, rfl, rfl, hR2, hfin, h2⟩

theorem code_sound (hΓ : TabOk P Γ) (hΔ : DelOk P w0 Δ) (hD : DrawSound P w0 Γ Δ) : ∀ (c : Code), codeDst N c = true → ∀ k, Sound P w0 G0 N fin c (fun ι e K => evCode Γ Δ A fin c k ι e K)
  | .skip, hc, k, σ, ι, K, e, r, m, tm, hR, hf, h => wp_skip ⟨m, e, rfl, rfl, hR, hf, h⟩
  | .exit id, hc, k, σ, ι, K, e, r, m, tm, hR, hf, h => wp_exit ⟨m, e, rfl, rfl, hR, hf, h⟩
  | .ret, hc, k, σ, ι, K, e, r, m, tm, hR, hf, h => by
    simp only [evCode] at h
    cases hz : fin e with
    | none => simp [hz] at h
    | some z =>
      simp only [hz] at h
      exact wp_ret ⟨m, e, z, rfl, rfl, hR, hz, h⟩
  | .region id ops d, hc, k, σ, ι, K, e, r, m, tm, hR, hf, h => by
    simp only [evCode] at h
    simp only [codeDst] at hc
    cases d with
    | false =>
      simp only at h
      exact wp_region_list (ops_sound hΓ hΔ rfl (fun m' e' tm' hR' hf' hK => ⟨m', e', rfl, rfl, hR', hf', hK⟩) _ m e tm (allDst_mem hc) hR hf h)
    | true =>
      simp only at h
      cases hs : slotsOk ops.toList (ancs 0 ops.toList []) 0 ops.toList with
      | false => simp [hs] at h
      | true =>
        simp only [hs] at h
        exact hD (allDst_mem hc) hs hR hf h fun m' e' tm' hR' hf' hK => ⟨m', e', rfl, rfl, hR', hf', hK⟩
  | .seq a b, hc, k, σ, ι, K, e, r, m, tm, hR, hf, h => by
    simp only [codeDst] at hc
    obtain ⟨hca, hcb⟩ := both hc
    have iha : ∀ k, Sound P w0 G0 N fin a (fun ι e K => evCode Γ Δ A fin a k ι e K) := fun k {σ} ι K e r m tm => code_sound hΓ hΔ hD a hca k ι K e r m tm
    have ihb : ∀ k, Sound P w0 G0 N fin b (fun ι e K => evCode Γ Δ A fin b k ι e K) := fun k {σ} ι K e r m tm => code_sound hΓ hΔ hD b hcb k ι K e r m tm
    simp only [evCode] at h
    refine wp_seq ?_
    split at h
    · rename_i j hj
      unfold meet at h
      cases hq : j.quiet with
      | true =>
        rw [hq] at h
        simp only at h
        obtain ⟨y, h1, h2⟩ := bnd_some h
        refine wp_mono (iha k _ _ _ _ m tm hR hf h1) ?_
        intro ex a' w' hp
        cases ex with
        | normal =>
          obtain ⟨m', e', rfl, hd', hR', hf', hK⟩ := hp
          obtain ⟨y', hp', hl⟩ := toJoin_some hK
          obtain rfl := Option.some.inj hl
          obtain ⟨m2, hw, hR2, hf2⟩ := unpack_sound (pack_sound hR' hp')
          simp only [Exit.then]
          rw [act_eta hd', ← hw]
          exact ihb k _ _ _ _ m2 _ hR2 hf2 h2
        | exit i =>
          obtain ⟨m', e', _, _, _, _, hK⟩ := hp
          simp at hK
        | ret =>
          obtain ⟨m', e', z, _, _, _, _, hz⟩ := hp
          simp at hz
        | _ => exact hp.elim
      | false =>
        rw [hq] at h
        simp only at h
        obtain ⟨y, h1, h2⟩ := bnd_some h
        refine wp_mono (iha k _ _ _ _ m tm hR hf h1) ?_
        intro ex a' w' hp
        cases ex with
        | normal =>
          obtain ⟨m', e', rfl, hd', hR', hf', hK⟩ := hp
          obtain ⟨y', hp', hl⟩ := toJoin_some hK
          obtain rfl := Option.some.inj hl
          obtain ⟨m2, hw, hR2, hf2⟩ := unpack_sound (pack_sound hR' hp')
          simp only [Exit.then]
          rw [act_eta hd', ← hw]
          exact ihb k _ _ _ _ m2 _ hR2 hf2 h2
        | exit i =>
          obtain ⟨m', e', _, _, _, _, hK⟩ := hp
          simp at hK
        | ret =>
          obtain ⟨m', e', z, rfl, hd', hR', hz, he⟩ := hp
          obtain rfl := Option.some.inj he
          exact ⟨m', e', z, rfl, hd', hR', hz, h2⟩
        | _ => exact hp.elim
    · refine wp_mono (iha k _ _ _ _ m tm hR hf h) ?_
      intro ex a' w' hp
      cases ex with
      | normal =>
        obtain ⟨m', e', rfl, hd', hR', hf', hK⟩ := hp
        simp only [Exit.then]
        rw [act_eta hd']
        exact ihb k _ _ _ _ m' _ hR' hf' hK
      | exit i => exact hp
      | ret => exact hp
      | _ => exact hp.elim
  | .cond c a b, hc, k, σ, ι, K, e, r, m, tm, hR, hf, h => by
    simp only [codeDst] at hc
    obtain ⟨hca, hcb⟩ := both hc
    simp only [evCode] at h
    cases hx : e.one c with
    | none => simp [hx] at h
    | some v =>
      have hl := one_lv (a := ⟨tm, []⟩) hR hx
      cases v with
      | b x =>
        simp only [hx] at h
        simp only [Lv] at hl
        cases x with
        | true => exact wp_cond_true hl (code_sound hΓ hΔ hD a hca k _ _ _ _ m tm hR hf h)
        | false => exact wp_cond_false hl (code_sound hΓ hΔ hD b hcb k _ _ _ _ m tm hR hf h)
      | _ => simp [hx] at h
  | .block id (.loop body), hc, k, σ, ι, K, e, r, m, tm, hR, hf, h => by
    simp only [codeDst] at hc
    have ih : ∀ k, Sound P w0 G0 N fin body (fun ι e K => evCode Γ Δ A fin body k ι e K) := fun k {σ} ι K e r m tm => code_sound hΓ hΔ hD body hc k ι K e r m tm
    exact loop_sound ih k ι K e r m tm hR hf h
  | .block id body, hc, k, σ, ι, K, e, r, m, tm, hR, hf, h => by
    have hcb : codeDst N body = true := hc
    have ih : ∀ k, Sound P w0 G0 N fin body (fun ι e K => evCode Γ Δ A fin body k ι e K) := fun k {σ} ι K e r m tm => code_sound hΓ hΔ hD body hcb k ι K e r m tm
    have h' : (∃ b, body = .loop b) ∨ evCode Γ Δ A fin body k ι e (fun ex e' => match ex with
        | .normal => K .normal e'
        | .exit i => match Nat.beq i id with
          | true => K .normal e'
          | false => K (.exit i) e') = some r := by
      cases body <;> first
        | exact .inl ⟨_, rfl⟩
        | (right; simp only [evCode] at h; exact h)
    rcases h' with ⟨b, rfl⟩ | h'
    · exact loop_sound (fun k {σ} ι K e r m tm => code_sound hΓ hΔ hD b (by simp only [codeDst] at hcb; exact hcb) k ι K e r m tm) k ι K e r m tm hR hf h
    · refine wp_block (wp_mono (ih k _ _ _ _ m tm hR hf h') ?_)
      intro ex a' w' hp
      cases ex with
      | normal => exact hp
      | exit i =>
        obtain ⟨m', e', rfl, hd', hR', hf', hK⟩ := hp
        simp only at hK
        simp only [Exit.inBlock]
        cases hi : Nat.beq i id with
        | true =>
          have := Nat.eq_of_beq_eq_true hi
          simp only [hi] at hK
          rw [if_pos this]
          exact ⟨m', e', rfl, hd', hR', hf', hK⟩
        | false =>
          have hne : ¬ i = id := fun q => by subst q; simp at hi
          simp only [hi] at hK
          rw [if_neg hne]
          exact ⟨m', e', rfl, hd', hR', hf', hK⟩
      | ret => exact hp
      | _ => exact hp.elim
  | .loop c, hc, k, σ, ι, K, e, r, m, tm, hR, hf, h => by simp [evCode] at h
  | .scope c, hc, k, σ, ι, K, e, r, m, tm, hR, hf, h => by simp [evCode] at h
  | .label l, hc, k, σ, ι, K, e, r, m, tm, hR, hf, h => by simp [evCode] at h
  | .goto l, hc, k, σ, ι, K, e, r, m, tm, hR, hf, h => by simp [evCode] at h
end
end Go.Ev
end

section
/- What an operation comes to, apart from what becomes of it. -/
set_option linter.unusedSimpArgs false
set_option linter.unusedVariables false
namespace Go.Ev

section
variable {ρ : Type} {Γ : Tab} {Δ : List (Nat × Con)} {k : Nat}

abbrev pr (v : SV) (e : Env) : Option (SV × Env) := some (v, e)
theorem chk_bind {α β : Type} (b : Bool) (x : Option α) (f : α → Option β) : (chk b x).bind f = chk b (x.bind f) := by cases b <;> rfl
theorem br_bind {α β : Type} (b : Bool) (x y : Option α) (f : α → Option β) : (br b x y).bind f = br b (x.bind f) (y.bind f) := by cases b <;> rfl
theorem bnd_bind {α β γ : Type} (x : Option α) (g : α → Option β) (f : β → Option γ) : (bnd x g).bind f = bnd x fun y => (g y).bind f := by cases x <;> rfl

theorem evInt_nat (op : BinOp) (q : IntKind) (a b : Int) (K : SV → Option ρ) : evInt op q a b K = (evInt op q a b some).bind K := by
  cases op <;> simp only [evInt, chk_bind, Option.bind_some, Option.bind_none]
theorem evStr_nat (op : BinOp) (a b : List UInt8) (K : SV → Option ρ) : evStr op a b K = (evStr op a b some).bind K := by
  cases op <;> simp only [evStr, chk_bind, Option.bind_some, Option.bind_none]
theorem evBin_nat (u : Ty) (op : BinOp) (x y : SV) (K : SV → Option ρ) : evBin u op x y K = (evBin u op x y some).bind K := by
  unfold evBin
  split
  · split
    · simp only [chk_bind, Option.bind_some]
    · simp only [chk_bind, Option.bind_some]
    · split
      · exact evInt_nat _ _ _ _ _
      · rfl
  · split
    · split <;> rfl
    · rfl
  · exact evStr_nat _ _ _ _
  · split
    · split
      · split <;> rfl
      · split <;> rfl
      · rfl
    · rfl
  · rfl
theorem evUn_nat (op : UnOp) (x : V) (K : SV → Option ρ) : evUn op x K = (evUn op x some).bind K := by
  unfold evUn
  split <;> rfl
theorem evIndexAddr_nat (u : Ty) (s : V) (n : Int) (e : Env) (K : SV → Option ρ) : evIndexAddr u s n e K = (evIndexAddr u s n e some).bind K := by
  unfold evIndexAddr
  split
  · split
    · simp only [chk_bind, Option.bind_some]
    · rfl
  · split
    · split
      · simp only [chk_bind, Option.bind_some]
      · rfl
    · split
      · simp only [chk_bind, Option.bind_some]
      · rfl
    · rfl
  · rfl
theorem evSliceN_nat (t : Ty) (xs : List t.den) (lo hi : Option Int) (K : SV → Option ρ) : evSliceN t xs lo hi K = (evSliceN t xs lo hi some).bind K := by
  unfold evSliceN
  split <;> simp only [chk_bind, Option.bind_some]
theorem evSliceS_nat (s : List UInt8) (lo hi : Option Int) (K : SV → Option ρ) : evSliceS s lo hi K = (evSliceS s lo hi some).bind K := by
  unfold evSliceS
  split <;> simp only [chk_bind, Option.bind_some]
/-- from a value to a value and the environment -/
theorem with_env {x : Option SV} (e : Env) (K : SV → Env → Option ρ) : (x.bind fun v => K v e) = (x.bind fun v => pr v e).bind fun p => K p.1 p.2 := by cases x <;> rfl
theorem evSlice_nat (u : Ty) (x : V) (lo hi : Option Operand) (e : Env) (K : SV → Env → Option ρ) : evSlice u x lo hi e K = (evSlice u x lo hi e pr).bind fun p => K p.1 p.2 := by
  unfold evSlice
  split
  · split
    · split
      · rw [evSliceS_nat, evSliceS_nat _ _ _ (fun v => pr v e)]; exact with_env _ _
      · rfl
    · split
      · rw [evSliceN_nat, evSliceN_nat _ _ _ _ (fun v => pr v e)]; exact with_env _ _
      · rfl
    · split
      · split
        · rw [evSliceN_nat, evSliceN_nat _ _ _ _ (fun v => pr v _)]; exact with_env _ _
        · rfl
      · rfl
    · rfl
  · rfl
theorem evLoad_nat (T : Nat) (a : V) (e : Env) (K : SV → Env → Option ρ) : evLoad Γ T a e K = (evLoad Γ T a e pr).bind fun p => K p.1 p.2 := by
  unfold evLoad
  repeat' split
  all_goals rfl
theorem evStore_nat (T : Nat) (a : V) (v : SV) (e : Env) (K : SV → Env → Option ρ) : evStore Γ T a v e K = (evStore Γ T a v e pr).bind fun p => K p.1 p.2 := by
  unfold evStore
  repeat' split
  all_goals rfl
theorem evAppendTo_nat (T : Nat) (t : Ty) (ys : List t.den) (s : V) (e : Env) (K : SV → Env → Option ρ) : evAppendTo T t ys s e K = (evAppendTo T t ys s e pr).bind fun p => K p.1 p.2 := by
  unfold evAppendTo
  repeat' split
  all_goals first | rfl | simp only [chk_bind, Option.bind_some]
theorem evAppend_nat (T : Nat) (s x : V) (e : Env) (K : SV → Env → Option ρ) : evAppend Γ T s x e K = (evAppend Γ T s x e pr).bind fun p => K p.1 p.2 := by
  unfold evAppend
  repeat' split
  all_goals first | rfl | exact evAppendTo_nat _ _ _ _ _ _
theorem evConv_nat (src dst : Ty) (x : V) (e : Env) (K : SV → Env → Option ρ) : evConv src dst x e K = (evConv src dst x e pr).bind fun p => K p.1 p.2 := by
  unfold evConv
  repeat' split
  all_goals rfl
theorem evCall_nat (f : Nat) (vs : List SV) (e : Env) (K : SV → Env → Option ρ) : ∀ (Δ : List (Nat × Con)), evCall k f vs e K Δ = (evCall k f vs e pr Δ).bind fun p => K p.1 p.2
  | [] => rfl
  | (g, c) :: r => by
    have ih := evCall_nat f vs e K r
    simp only [evCall]
    cases Nat.beq f g with
    | false => exact ih
    | true =>
      simp only
      cases flatAll c.res with
      | true =>
        simp only
        cases bindArgs false e.objs c.args vs with
        | none => exact ih
        | some x => simp only [bnd_bind, Option.bind_some]
      | false =>
        simp only
        cases bindArgs true (e.freeze (reachAll e.objs vs)).objs c.args vs with
        | none => exact ih
        | some x => simp only [bnd_bind, Option.bind_some]
theorem evBuiltin_nat (b : Builtin) (ts : List Nat) (vs : List SV) (e : Env) (K : SV → Env → Option ρ) : evBuiltin Γ b ts vs e K = (evBuiltin Γ b ts vs e pr).bind fun p => K p.1 p.2 := by
  unfold evBuiltin
  repeat' split
  all_goals first | rfl | exact evAppend_nat _ _ _ _ _

theorem evIndexArr_nat (ti : TI) (v : SV) (n : Int) (e : Env) (K : SV → Env → Option ρ) : evIndexArr Γ ti v n e K = (evIndexArr Γ ti v n e pr).bind fun p => K p.1 p.2 := by
  unfold evIndexArr
  repeat' split
  all_goals first | rfl | simp only [chk_bind, Option.bind_some]
theorem evSort_nat (f T id h : Nat) (cs : List Cap) (e : Env) (K : SV → Env → Option ρ) : evSort Γ Δ k f T id h cs e K = (evSort Γ Δ k f T id h cs e pr).bind fun p => K p.1 p.2 := by
  unfold evSort
  repeat' split
  all_goals first | rfl | simp only [chk_bind, bnd_bind, Option.bind_some]
theorem evOp_nat (o : Op) (e : Env) (K : SV → Env → Option ρ) : evOp Γ Δ k o e K = (evOp Γ Δ k o e pr).bind fun p => K p.1 p.2 := by
  cases o with
  | move x => simp only [evOp]; split <;> rfl
  | assign x => simp only [evOp]; split <;> rfl
  | pick c a b =>
    simp only [evOp]
    split
    · rw [br_bind]
      congr 1 <;> (split <;> rfl)
    · rfl
  | alloc T => simp only [evOp]; split <;> rfl
  | box T x =>
    simp only [evOp]
    repeat' split
    all_goals rfl
  | makeInterface T x =>
    simp only [evOp]
    repeat' split
    all_goals rfl
  | build T ps =>
    simp only [evOp]
    repeat' split
    all_goals rfl
  | buildSlice T n ps =>
    simp only [evOp]
    repeat' split
    all_goals rfl
  | load T a =>
    simp only [evOp]
    split
    · exact evLoad_nat _ _ _ _
    · rfl
  | store T a x =>
    simp only [evOp]
    split
    · exact evStore_nat _ _ _ _ _
    · rfl
  | nilCheck x => simp only [evOp]; split <;> rfl
  | binOp op T x y yT =>
    simp only [evOp]
    split
    · split
      · rfl
      · rw [evBin_nat, evBin_nat _ _ _ _ (fun v => pr v e)]; exact with_env _ _
    · rfl
  | unOp op T x =>
    simp only [evOp]
    split
    · rw [evUn_nat, evUn_nat _ _ (fun v => pr v e)]; exact with_env _ _
    · rfl
  | convert s d x =>
    simp only [evOp]
    split
    · exact evConv_nat _ _ _ _ _
    · rfl
  | makeFunc fn first caps =>
    cases fn <;> simp only [evOp] <;> first | rfl | (split <;> rfl)
  | makeSlice T l c =>
    simp only [evOp]
    repeat' split
    all_goals first | rfl | simp only [chk_bind, Option.bind_some]
  | slice T x lo hi mx =>
    cases mx with
    | some => simp only [evOp]; rfl
    | none =>
      simp only [evOp]
      split
      · exact evSlice_nat _ _ _ _ _ _
      · rfl
  | fieldAddr T x i =>
    simp only [evOp]
    repeat' split
    all_goals rfl
  | indexAddr T x i =>
    simp only [evOp]
    split
    · rw [evIndexAddr_nat, evIndexAddr_nat _ _ _ _ (fun v => pr v e)]; exact with_env _ _
    · rfl
  | index T x i =>
    simp only [evOp]
    repeat' split
    all_goals first | rfl | exact evIndexArr_nat _ _ _ _ _ | simp only [chk_bind, Option.bind_some]
  | extract x i =>
    simp only [evOp]
    repeat' split
    all_goals rfl
  | call c =>
    obtain ⟨callee, args, ts⟩ := c
    cases callee with
    | builtin b =>
      simp only [evOp]
      split
      · exact evBuiltin_nat _ _ _ _ _
      · rfl
    | value f =>
      simp only [evOp]
      split
      · split
        · exact evSort_nat _ _ _ _ _ _ _
        · exact evCall_nat _ _ _ _ _
      · rfl
    | invoke r n => simp only [evOp]; rfl
  | _ => simp only [evOp]; rfl
end
end Go.Ev
end

section
/- A region whose operations come in any order: lists of writes. -/
set_option linter.unusedSimpArgs false
set_option linter.unusedVariables false
namespace Go.Ev
open Go.RowKit (Below)

/-! ### writes, of which some are done -/
def ovr {α : Type} (f : Nat → Option (Option α)) (S : Nat → Option α) : Nat → Option α := fun x => match f x with
  | some v => v
  | none => S x
def foldW {α : Type} (L : Nat → Bool) : Nat → List (Nat → Option (Option α)) → (Nat → Option α) → Nat → Option α
  | _, [], S => S
  | j, f :: r, S => foldW L (j + 1) r (match L j with
    | true => ovr f S
    | false => S)
section
variable {α : Type}
theorem foldW_congr {L L' : Nat → Bool} (x : Nat) : ∀ (T : List (Nat → Option (Option α))) (j : Nat) (S S' : Nat → Option α), S x = S' x → (∀ k f, T[k]? = some f → f x ≠ none → L (j + k) = L' (j + k)) → foldW L j T S x = foldW L' j T S' x
  | [], _, _, _, h, _ => h
  | f :: r, j, S, S', h, hk => by
    simp only [foldW]
    refine foldW_congr x r (j + 1) _ _ ?_ fun k g hg hx => ?_
    · cases hf : f x with
      | none =>
        have e1 : ∀ S : Nat → Option α, ovr f S x = S x := fun S => by simp [ovr, hf]
        cases L j <;> cases L' j <;> simp only [e1, h]
      | some v =>
        have := hk 0 f rfl (by rw [hf]; simp)
        rw [Nat.add_zero] at this
        rw [this]
        cases L' j
        · exact h
        · simp [ovr, hf]
    · have := hk (k + 1) g (by simpa using hg) hx
      rwa [show j + 1 + k = j + (k + 1) from by omega]
theorem foldW_none {L : Nat → Bool} (x : Nat) : ∀ (T : List (Nat → Option (Option α))) (j : Nat) (S : Nat → Option α), (∀ k f, T[k]? = some f → L (j + k) = true → f x = none) → foldW L j T S x = S x
  | [], _, _, _ => rfl
  | f :: r, j, S, hk => by
    simp only [foldW]
    rw [foldW_none x r (j + 1) _ fun k g hg hL => hk (k + 1) g (by simpa using hg) (by rwa [show j + (k + 1) = j + 1 + k from by omega])]
    cases hL : L j with
    | false => rfl
    | true =>
      have := hk 0 f rfl (by simpa using hL)
      simp [ovr, this]
theorem foldW_hit {L : Nat → Bool} (x : Nat) (v : Option α) : ∀ (T : List (Nat → Option (Option α))) (j : Nat) (S : Nat → Option α) (k : Nat) (f : Nat → Option (Option α)), T[k]? = some f → f x = some v → L (j + k) = true →
    (∀ k' f', k < k' → T[k']? = some f' → L (j + k') = true → f' x = none) → foldW L j T S x = v
  | [], _, _, k, f, h, _, _, _ => by simp at h
  | g :: r, j, S, 0, f, h, hx, hL, hk => by
    simp only [List.getElem?_cons_zero, Option.some.injEq] at h
    subst h
    simp only [foldW]
    rw [Nat.add_zero] at hL
    rw [hL]
    rw [foldW_none x r (j + 1) _ fun k f' hf hL' => hk (k + 1) f' (by omega) (by simpa using hf) (by rwa [show j + (k + 1) = j + 1 + k from by omega])]
    simp [ovr, hx]
  | g :: r, j, S, k + 1, f, h, hx, hL, hk => by
    simp only [foldW]
    exact foldW_hit x v r (j + 1) _ k f (by simpa using h) hx (by rwa [show j + 1 + k = j + (k + 1) from by omega]) fun k' f' hlt hf hL' => hk (k' + 1) f' (by omega) (by simpa using hf) (by rwa [show j + (k' + 1) = j + 1 + k' from by omega])
end

theorem find_only {α : Type} : ∀ (fp : List Nat) (l : List (Nat × α)) (i : Nat), find (only fp l) i = if i ∈ fp then find l i else none
  | fp, [], i => by simp [only, find]
  | fp, (k, v) :: r, i => by
    have ih := find_only fp r i
    simp only [only]
    cases hm : memN fp k with
    | true =>
      have hk := (memN_iff fp k).1 hm
      simp only [find]
      cases hb : Nat.beq k i with
      | true =>
        have := Nat.eq_of_beq_eq_true hb
        subst this
        simp [hk]
      | false => simp only; exact ih
    | false =>
      have hk : k ∉ fp := fun h => by rw [(memN_iff fp k).2 h] at hm; cases hm
      simp only [ih, find]
      cases hb : Nat.beq k i with
      | true =>
        have := Nat.eq_of_beq_eq_true hb
        subst this
        simp [hk]
      | false => rfl
theorem find_without {α : Type} : ∀ (fp : List Nat) (l : List (Nat × α)) (i : Nat), find (without fp l) i = if i ∈ fp then none else find l i
  | fp, [], i => by simp [without, find]
  | fp, (k, v) :: r, i => by
    have ih := find_without fp r i
    simp only [without]
    cases hm : memN fp k with
    | true =>
      have hk := (memN_iff fp k).1 hm
      simp only [ih, find]
      cases hb : Nat.beq k i with
      | true =>
        have := Nat.eq_of_beq_eq_true hb
        subst this
        simp [hk]
      | false => rfl
    | false =>
      have hk : k ∉ fp := fun h => by rw [(memN_iff fp k).2 h] at hm; cases hm
      simp only [find]
      cases hb : Nat.beq k i with
      | true =>
        have := Nat.eq_of_beq_eq_true hb
        subst this
        simp [hk]
      | false => simp only; exact ih
theorem find_mix {α : Type} (ws : List Nat) (a b : List (Nat × α)) (i : Nat) : find (only ws a ++ without ws b) i = if i ∈ ws then find a i else find b i := by
  rw [find_append, find_only, find_without]
  by_cases h : i ∈ ws
  · simp only [h, if_true]
    cases find a i <;> rfl
  · simp only [h, if_false]

/-! ### what comes ahead -/
theorem binding_eq (x : Edge) : Region.binds .any x = binding x := by
  unfold Region.binds binding
  cases x.ground <;> rfl
theorem ancOf_spec {j : Nat} {known : List (Nat × List Nat)} : ∀ (es : List Edge) (a : Nat), a ∈ ancOf j known es → ∃ x ∈ es, binding x = true ∧ x.on < j ∧ (a = x.on ∨ ∃ l, find known x.on = some l ∧ a ∈ l)
  | [], a, h => by simp [ancOf] at h
  | x :: r, a, h => by
    have ih := ancOf_spec (j := j) (known := known) r a
    have up : a ∈ ancOf j known r → ∃ y ∈ x :: r, binding y = true ∧ y.on < j ∧ (a = y.on ∨ ∃ l, find known y.on = some l ∧ a ∈ l) := fun h => by
      obtain ⟨y, hy, h⟩ := ih h
      exact ⟨y, List.mem_cons_of_mem _ hy, h⟩
    simp only [ancOf] at h
    cases hb : binding x with
    | false => rw [hb] at h; exact up h
    | true =>
      cases hl : Nat.blt x.on j with
      | false => rw [hb, hl] at h; exact up h
      | true =>
        rw [hb, hl] at h
        simp only at h
        have hlt : x.on < j := Nat.le_of_ble_eq_true hl
        cases hf : find known x.on with
        | none =>
          rw [hf] at h
          rcases List.mem_cons.1 h with h | h
          · exact ⟨x, List.mem_cons_self, hb, hlt, .inl h⟩
          · exact up h
        | some l =>
          rw [hf] at h
          rcases List.mem_append.1 h with h | h
          · rcases List.mem_cons.1 h with h | h
            · exact ⟨x, List.mem_cons_self, hb, hlt, .inl h⟩
            · exact ⟨x, List.mem_cons_self, hb, hlt, .inr ⟨l, hf, h⟩⟩
          · exact up h
theorem ancs_spec : ∀ (rest : List Oper) (j : Nat) (known : List (Nat × List Nat)), (∀ i, j ≤ i → find known i = none) →
    (∀ i, i < j → find (ancs j rest known) i = find known i) ∧ (∀ i l, find (ancs j rest known) i = some l → j ≤ i → ∃ o, rest[i - j]? = some o ∧ ∀ a ∈ l, ∃ x ∈ o.after.toList, binding x = true ∧ x.on < i ∧ (a = x.on ∨ ∃ l', find (ancs j rest known) x.on = some l' ∧ a ∈ l'))
  | [], j, known, hk => ⟨fun _ _ => rfl, fun i l h hi => by simp only [ancs] at h; rw [hk i hi] at h; cases h⟩
  | o :: r, j, known, hk => by
    simp only [ancs]
    have hk' : ∀ i, j + 1 ≤ i → find ((j, ancOf j known o.after.toList) :: known) i = none := fun i hi => by
      rw [find_cons, if_neg (by omega)]
      exact hk i (by omega)
    obtain ⟨h1, h2⟩ := ancs_spec r (j + 1) _ hk'
    refine ⟨fun i hi => ?_, fun i l h hi => ?_⟩
    · rw [h1 i (by omega), find_cons, if_neg (by omega)]
    · by_cases hij : i = j
      · subst hij
        have hf := h1 i (by omega)
        rw [h, find_cons, if_pos rfl] at hf
        obtain rfl := Option.some.inj hf
        refine ⟨o, by simp, fun a ha => ?_⟩
        obtain ⟨x, hx, hb, hlt, hc⟩ := ancOf_spec _ a ha
        refine ⟨x, hx, hb, hlt, hc.imp id fun ⟨l', hl', ha'⟩ => ⟨l', ?_, ha'⟩⟩
        rw [h1 x.on (by omega), find_cons, if_neg (by omega)]
        exact hl'
      · obtain ⟨o', ho', ha⟩ := h2 i l h (by omega)
        refine ⟨o', ?_, ha⟩
        have e1 : i - j = (i - (j + 1)) + 1 := by omega
        rw [e1, List.getElem?_cons_succ]
        exact ho'
/-- What comes ahead of an operation whose edges are met is done. -/
theorem anc_done {all : List Oper} {L : Nat → Prop} (hL : ∀ j o, all[j]? = some o → L j → ∀ x ∈ o.after.toList, binding x = true → L x.on) :
    ∀ (j : Nat) (l : List Nat), find (ancs 0 all []) j = some l → (∀ o, all[j]? = some o → ∀ x ∈ o.after.toList, binding x = true → L x.on) → ∀ a ∈ l, L a := by
  obtain ⟨_, h2⟩ := ancs_spec all 0 [] (fun i _ => rfl)
  intro j
  induction j using Nat.strongRecOn with
  | _ j ih =>
    intro l hl he a ha
    obtain ⟨o, ho, hx⟩ := h2 j l hl (Nat.zero_le _)
    rw [Nat.sub_zero] at ho
    obtain ⟨x, hxm, hb, hlt, hc⟩ := hx a ha
    have hLx := he o ho x hxm hb
    rcases hc with rfl | ⟨l', hl', ha'⟩
    · exact hLx
    · exact ih x.on hlt l' hl' (fun o' ho' y hy hby => hL x.on o' ho' hLx y hy hby) a ha'

/-! ### slots -/
theorem tmpsOf_mem {t : Nat} : ∀ {l : List Operand}, t ∈ tmpsOf l ↔ .tmp t ∈ l
  | [] => by simp [tmpsOf]
  | o :: r => by
    have ih := tmpsOf_mem (t := t) (l := r)
    cases o <;> simp [tmpsOf, ih]
theorem looks_ops {all : List Oper} {o : Oper} {t : Nat} (h : t ∈ tmpsOf o.op.operands.toList) : t ∈ looks all o := by
  unfold looks
  split
  · exact h
  · split
    · split
      · exact List.mem_cons_of_mem _ h
      · exact h
    · exact h
theorem looks_guard {all : List Oper} {o p : Oper} {g s : Nat} {want : Bool} (h1 : o.guard = some (g, want)) (h2 : nth all g = some p) (h3 : p.dst = some s) : s ∈ looks all o := by
  unfold looks
  rw [h1]
  simp only [h2, h3]
  exact List.mem_cons_self
theorem dstIn_false {d : Option Nat} {l : List Nat} (h : dstIn d l = false) : ∀ t, d = some t → t ∉ l := by
  intro t ht hm
  subst ht
  simp only [dstIn] at h
  rw [(memN_iff l t).2 hm] at h
  cases h
theorem slotsApart_spec {all : List Oper} {x y : Oper} (h : slotsApart all x y = true) : (∀ t, x.dst = some t → t ∉ looks all y) ∧ (∀ t, y.dst = some t → t ∉ looks all x) ∧ ∀ t, x.dst = some t → y.dst ≠ some t := by
  unfold slotsApart at h
  cases h1 : dstIn x.dst (looks all y) with
  | true => simp [h1] at h
  | false =>
    cases h2 : dstIn y.dst (looks all x) with
    | true => simp [h1, h2] at h
    | false =>
      cases h3 : dstEq x.dst y.dst with
      | true => simp [h1, h2, h3] at h
      | false =>
        refine ⟨dstIn_false h1, dstIn_false h2, fun t ht hy => ?_⟩
        rw [ht, hy] at h3
        simp [dstEq] at h3
theorem pairsOk_spec {all : List Oper} {y : Oper} {anc : List Nat} : ∀ (l : List Oper) (k0 : Nat), pairsOk all y anc k0 l = true → ∀ k x, l[k]? = some x → k0 + k ∈ anc ∨ slotsApart all x y = true
  | [], _, _, k, x, h => by simp at h
  | z :: r, k0, h, k, x, hx => by
    have hr : (memN anc k0 = true ∨ slotsApart all z y = true) ∧ pairsOk all y anc (k0 + 1) r = true := by
      simp only [pairsOk] at h
      cases h1 : memN anc k0 with
      | true => rw [h1] at h; exact ⟨.inl rfl, h⟩
      | false =>
        rw [h1] at h
        simp only at h
        cases h2 : slotsApart all z y with
        | true => rw [h2] at h; exact ⟨.inr rfl, h⟩
        | false => simp [h2] at h
    cases k with
    | zero =>
      simp only [List.getElem?_cons_zero, Option.some.injEq] at hx
      subst hx
      exact hr.1.imp (memN_iff anc k0).1 id
    | succ k =>
      have := pairsOk_spec r (k0 + 1) hr.2 k x (by simpa using hx)
      rwa [show k0 + (k + 1) = k0 + 1 + k from by omega]
theorem edgesBack_spec {j : Nat} : ∀ {es : List Edge}, edgesBack j es = true → ∀ x ∈ es, binding x = true → x.on < j
  | [], _, x, h, _ => by simp at h
  | y :: r, h, x, hx, hb => by
    have hr : (binding y = true → y.on < j) ∧ edgesBack j r = true := by
      simp only [edgesBack] at h
      cases h1 : binding y with
      | false => rw [h1] at h; exact ⟨fun q => (by cases q), h⟩
      | true =>
        cases h2 : Nat.blt y.on j with
        | false => simp [h1, h2] at h
        | true => rw [h1, h2] at h; exact ⟨fun _ => Nat.le_of_ble_eq_true h2, h⟩
    rcases List.mem_cons.1 hx with e | e
    · subst e; exact hr.1 hb
    · exact edgesBack_spec hr.2 x e hb
theorem slotsOk_spec {all : List Oper} {an : List (Nat × List Nat)} : ∀ (rest : List Oper) (j : Nat), slotsOk all an j rest = true → ∀ i y, rest[i]? = some y →
    ∃ anc, find an (j + i) = some anc ∧ (∀ k x, k < j + i → all[k]? = some x → k ∈ anc ∨ slotsApart all x y = true) ∧ edgesBack (j + i) y.after.toList = true
  | [], _, _, i, y, h => by simp at h
  | z :: r, j, h, i, y, hy => by
    simp only [slotsOk] at h
    cases hf : find an j with
    | none => simp [hf] at h
    | some anc =>
      simp only [hf] at h
      cases h1 : pairsOk all z anc 0 (takeN j all) with
      | false => simp [h1] at h
      | true =>
        cases h2 : edgesBack j z.after.toList with
        | false => simp [h1, h2] at h
        | true =>
          simp only [h1, h2] at h
          cases i with
          | zero =>
            simp only [List.getElem?_cons_zero, Option.some.injEq] at hy
            subst hy
            refine ⟨anc, hf, fun k x hk hx => ?_, h2⟩
            have := pairsOk_spec _ _ h1 k x (by rw [takeN_eq, List.getElem?_take, if_pos (by omega)]; exact hx)
            rwa [Nat.zero_add] at this
          | succ i =>
            have := slotsOk_spec r (j + 1) h i y (by simpa using hy)
            rwa [show j + (i + 1) = j + 1 + i from by omega]

theorem apartN_spec : ∀ {l l' : List Nat}, apartN l l' = true → ∀ a ∈ l, a ∉ l'
  | [], _, _, a, h => by simp at h
  | b :: r, l', h, a, ha => by
    simp only [apartN] at h
    cases hm : memN l' b with
    | true => simp [hm] at h
    | false =>
      rw [hm] at h
      rcases List.mem_cons.1 ha with e | e
      · subst e
        intro hx
        rw [(memN_iff l' a).2 hx] at hm
        cases hm
      · exact apartN_spec h a e
theorem clear_spec {anc fp wr : List Nat} : ∀ {rs : List Rc}, clear anc fp wr rs = true → ∀ q ∈ rs, q.i ∈ anc ∨ (∀ a ∈ q.wr, a ∉ fp) ∧ ∀ a ∈ q.fp, a ∉ wr
  | [], _, q, h => by simp at h
  | p :: r, h, q, hq => by
    have hr : (p.i ∈ anc ∨ (∀ a ∈ p.wr, a ∉ fp) ∧ ∀ a ∈ p.fp, a ∉ wr) ∧ clear anc fp wr r = true := by
      simp only [clear] at h
      cases h1 : memN anc p.i with
      | true => rw [h1] at h; exact ⟨.inl ((memN_iff _ _).1 h1), h⟩
      | false =>
        rw [h1] at h
        simp only at h
        cases h2 : apartN p.wr fp with
        | false => simp [h2] at h
        | true =>
          cases h3 : apartN p.fp wr with
          | false => simp [h2, h3] at h
          | true => rw [h2, h3] at h; exact ⟨.inr ⟨apartN_spec h2, apartN_spec h3⟩, h⟩
    rcases List.mem_cons.1 hq with e | e
    · subst e; exact hr.1
    · exact clear_spec hr.2 q e
end Go.Ev
end

section
/- A region whose operations come in any order: what the evaluator has noted. -/
set_option linter.unusedSimpArgs false
set_option linter.unusedVariables false
namespace Go.Ev
open Go.RowKit (Below)

/-- What an operation was and did. -/
structure Tr where
  dst : Option Nat
  sv : SV
  did : Bool
  n : Nat
  fp : List Nat
  wr : List Nat
  out : Nat → Option Obj
def wS (x : Tr) : Nat → Option (Option SV) := fun t => if x.dst = some t then some (some x.sv) else none
def wO (x : Tr) : Nat → Option (Option Obj) := fun i => if x.did = true ∧ i ∈ x.n :: x.wr then some (x.out i) else none
def rcOf (j : Nat) (x : Tr) : Rc := ⟨j, x.n :: x.fp, x.n :: x.wr⟩
/-- Two operations do not meet, or the first comes ahead. -/
def Cl (an : List (Nat × List Nat)) (q : Rc) (j : Nat) (x : Tr) : Prop := ∃ anc, find an j = some anc ∧ (q.i ∈ anc ∨ (∀ a ∈ q.wr, a ∉ x.n :: x.fp) ∧ ∀ a ∈ q.fp, a ∉ x.n :: x.wr)

section
variable (Γ : Tab) (Δ : List (Nat × Con)) (k : Nat) (all : List Oper) (an : List (Nat × List Nat)) (n0 : Nat)

def Guarded (o : Oper) (S : Nat → Option SV) (ok : Bool → SV → Prop) : Prop := ∃ g want p s sv, o.guard = some (g, want) ∧ nth all g = some p ∧ p.dst = some s ∧ S s = some sv ∧ ok want sv
def Fact (j : Nat) (o : Oper) (x : Tr) (S : Nat → Option SV) (O : Nat → Option Obj) : Prop :=
  x.dst = o.dst ∧ x.n = n0 + j ∧
  ((x.did = true ∧ (o.guard = none ∨ Guarded all o S fun want sv => sv = .one (.b want)) ∧ (reads o.op = true ∧ x.wr = [] ∨ x.wr = x.fp) ∧
    ∃ E0 e1, (∀ t, find E0.slots t = if t ∈ tmpsOf o.op.operands.toList then S t else none) ∧ (∀ i, find E0.objs i = if i ∈ x.fp then O i else none) ∧ E0.next = x.n ∧ evOp Γ Δ k o.op E0 pr = some (x.sv, e1) ∧ x.out = find e1.objs) ∨
  (x.did = false ∧ x.sv = .tup [] ∧ Guarded all o S fun want sv => sv = .one (.b (!want)) ∨ sv = .tup []))
def TrS : Nat → List Oper → List Tr → (Nat → Option SV) → (Nat → Option Obj) → Prop
  | _, [], [], _, _ => True
  | j, o :: r, x :: xs, S, O => Fact Γ Δ k all n0 j o x S O ∧ TrS (j + 1) r xs (ovr (wS x) S) (ovr (wO x) O)
  | _, _, _, _, _ => False
end

section
variable {Γ : Tab} {Δ : List (Nat × Con)} {k : Nat} {all : List Oper} {an : List (Nat × List Nat)} {n0 : Nat} {ρ : Type}

theorem TrS.length : ∀ {l : List Oper} {T : List Tr} {j : Nat} {S : Nat → Option SV} {O : Nat → Option Obj}, TrS Γ Δ k all n0 j l T S O → T.length = l.length
  | [], [], _, _, _, _ => rfl
  | o :: r, x :: xs, _, _, _, h => by simp [TrS.length h.2]
  | [], _ :: _, _, _, _, h => by simp [TrS] at h
  | _ :: _, [], _, _, _, h => by simp [TrS] at h
theorem foldW_all_false {α : Type} {L : Nat → Bool} {T : List (Nat → Option (Option α))} {j : Nat} {S : Nat → Option α} (h : ∀ i, j ≤ i → L i = false) : foldW L j T S = S := by
  funext x
  exact foldW_none x T j S fun k f _ hL => by rw [h (j + k) (by omega)] at hL; cases hL
theorem TrS.get : ∀ {l : List Oper} {T : List Tr} {j : Nat} {S : Nat → Option SV} {O : Nat → Option Obj}, TrS Γ Δ k all n0 j l T S O → ∀ i o x, l[i]? = some o → T[i]? = some x →
    Fact Γ Δ k all n0 (j + i) o x (foldW (fun q => decide (q < j + i)) j (T.map wS) S) (foldW (fun q => decide (q < j + i)) j (T.map wO) O)
  | [], _, _, _, _, _, i, o, x, h, _ => by simp at h
  | o :: r, [], _, _, _, h, _, _, _, _, _ => by simp [TrS] at h
  | o :: r, x :: xs, j, S, O, h, 0, o', x', ho, hx => by
    simp only [List.getElem?_cons_zero, Option.some.injEq] at ho hx
    subst ho; subst hx
    rw [foldW_all_false (fun q hq => by simp; omega), foldW_all_false (fun q hq => by simp; omega)]
    exact h.1
  | o :: r, x :: xs, j, S, O, h, i + 1, o', x', ho, hx => by
    have := TrS.get h.2 i o' x' (by simpa using ho) (by simpa using hx)
    have e1 : j + (i + 1) = j + 1 + i := by omega
    rw [e1]
    have hj : decide (j < j + 1 + i) = true := by simp; omega
    simp only [List.map_cons, foldW, hj]
    exact this

theorem find_put (e : Env) (d : Option Nat) (sv : SV) : find (e.put d sv).slots = ovr (fun t => if d = some t then some (some sv) else none) (find e.slots) := by
  funext t
  cases d with
  | none => simp [Env.put, ovr]
  | some d =>
    simp only [Env.put, Env.set, find_cons, ovr, Option.some.injEq]
    by_cases h : d = t
    · simp [h]
    · simp [h]

/-- One operation, noted. -/
theorem note (o : Oper) {j : Nat} {rs : List Rc} {e : Env} {r : ρ} {K : List Rc → Env → Option ρ} (hn : e.next = n0 + j) (hg : o.guard = none ∨ Guarded all o (find e.slots) fun want sv => sv = .one (.b want))
    (h : evOpD Γ Δ k an o j rs e K = some r) : ∃ x e', Fact Γ Δ k all n0 j o x (find e.slots) (find e.objs) ∧ x.did = true ∧ (∀ q ∈ rs, Cl an q j x) ∧ K (rcOf j x :: rs) e' = some r ∧ find e'.slots = ovr (wS x) (find e.slots) ∧ find e'.objs = ovr (wO x) (find e.objs) ∧ e'.next = n0 + (j + 1) := by
  unfold evOpD at h
  rw [evOp_nat] at h
  generalize hE : (⟨only (tmpsOf o.op.operands.toList) e.slots, only (foot e o.op.operands.toList) e.objs, e.next⟩ : Env) = E0 at h
  cases hev : evOp Γ Δ k o.op E0 pr with
  | none => simp [hev] at h
  | some p =>
    obtain ⟨sv, e1⟩ := p
    rw [hev] at h
    simp only [Option.bind_some] at h
    generalize hfp : foot e o.op.operands.toList = fp at h hE
    cases ha : find an j with
    | none => simp [ha] at h
    | some anc =>
      simp only [ha] at h
      cases hc : clear anc (e.next :: fp) (e.next :: wrOf o.op fp) rs with
      | false => simp [hc] at h
      | true =>
        simp only [hc] at h
        have hcl := clear_spec hc
        let x : Tr := ⟨o.dst, sv, true, e.next, fp, wrOf o.op fp, find e1.objs⟩
        refine ⟨x, _, ⟨rfl, hn, .inl ⟨rfl, hg, ?_, E0, e1, ?_, ?_, ?_, hev, rfl⟩⟩, rfl, fun q hq => ⟨anc, ha, hcl q hq⟩, h, ?_, ?_, ?_⟩
        · simp only [x, wrOf]
          cases reads o.op with
          | true => exact .inl ⟨rfl, rfl⟩
          | false => exact .inr rfl
        · intro t
          rw [← hE]
          exact find_only _ _ _
        · intro i
          rw [← hE]
          exact find_only _ _ _
        · rw [← hE]
        · exact find_put _ _ _
        · rw [put_objs]
          funext i
          simp only [find_mix, ovr, wO, x, true_and]
          by_cases hi : i ∈ e.next :: wrOf o.op fp
          · simp only [hi, if_true]
          · simp only [hi, if_false]
        · rw [put_next]
          show e.next + 1 = _
          omega
/-- One operation, left out. -/
theorem noteSkip (o : Oper) {j : Nat} {e : Env} (hn : e.next = n0 + j) (hg : Guarded all o (find e.slots) fun want sv => sv = .one (.b (!want)) ∨ sv = .tup []) :
    ∃ x, Fact Γ Δ k all n0 j o x (find e.slots) (find e.objs) ∧ x.did = false ∧ find (skipD o e).slots = ovr (wS x) (find e.slots) ∧ find (skipD o e).objs = ovr (wO x) (find e.objs) ∧ (skipD o e).next = n0 + (j + 1) := by
  let x : Tr := ⟨o.dst, .tup [], false, n0 + j, [], [], fun _ => none⟩
  refine ⟨x, ⟨rfl, rfl, .inr ⟨rfl, rfl, hg⟩⟩, rfl, ?_, ?_, ?_⟩
  · unfold skipD
    exact find_put _ _ _
  · unfold skipD
    rw [put_objs]
    funext i
    simp [ovr, wO, x]
  · unfold skipD
    rw [put_next]
    show e.next + 1 = _
    omega

def Traced (Γ : Tab) (Δ : List (Nat × Con)) (k : Nat) (all : List Oper) (an : List (Nat × List Nat)) (n0 : Nat) (K : Env → Option ρ) (r : ρ) (l : List Oper) (j : Nat) (rs : List Rc) (S : Nat → Option SV) (O : Nat → Option Obj) : Prop :=
  ∃ T ef, TrS Γ Δ k all n0 j l T S O ∧ K ef = some r ∧ ef.next = n0 + (j + l.length) ∧ find ef.slots = foldW (fun _ => true) j (T.map wS) S ∧ find ef.objs = foldW (fun _ => true) j (T.map wO) O ∧
    (∀ q ∈ rs, ∀ i x, T[i]? = some x → x.did = true → Cl an q (j + i) x) ∧ ∀ i i' x x', i < i' → T[i]? = some x → T[i']? = some x' → x.did = true → x'.did = true → Cl an (rcOf (j + i) x) (j + i') x'
theorem trace {K : Env → Option ρ} {r : ρ} : ∀ (l : List Oper) (j : Nat) (rs : List Rc) (e : Env), e.next = n0 + j → evOpsD Γ Δ k all an l j rs e K = some r →
    Traced Γ Δ k all an n0 K r l j rs (find e.slots) (find e.objs)
  | [], j, rs, e, hn, h => ⟨[], e, trivial, h, by simpa using hn, rfl, rfl, fun q _ i x hx => by simp at hx, fun i i' x x' _ hx => by simp at hx⟩
  | o :: l, j, rs, e, hn, h => by
    -- what follows, joined to what was noted
    have join : ∀ (x : Tr) (rs' : List Rc) (e' : Env), Fact Γ Δ k all n0 j o x (find e.slots) (find e.objs) → (x.did = true → (∀ q ∈ rs, Cl an q j x) ∧ rcOf j x ∈ rs') → (∀ q ∈ rs, q ∈ rs') →
        find e'.slots = ovr (wS x) (find e.slots) → find e'.objs = ovr (wO x) (find e.objs) → e'.next = n0 + (j + 1) → evOpsD Γ Δ k all an l (j + 1) rs' e' K = some r →
        Traced Γ Δ k all an n0 K r (o :: l) j rs (find e.slots) (find e.objs) := by
      intro x rs' e' hF hd hrs hs ho hn' h'
      obtain ⟨T, ef, g1, g2, g3, g4, g5, g6, g7⟩ := trace l (j + 1) rs' e' hn' h'
      rw [hs, ho] at g1
      rw [hs] at g4
      rw [ho] at g5
      refine ⟨x :: T, ef, ⟨hF, g1⟩, g2, ?_, g4, g5, ?_, ?_⟩
      · rw [g3, List.length_cons]
        omega
      · intro q hq i y hy hdy
        cases i with
        | zero =>
          simp only [List.getElem?_cons_zero, Option.some.injEq] at hy
          subst hy
          exact (hd hdy).1 q hq
        | succ i =>
          have := g6 q (hrs q hq) i y (by simpa using hy) hdy
          rwa [show j + (i + 1) = j + 1 + i from by omega]
      · intro i i' y y' hlt hy hy' hdy hdy'
        cases i' with
        | zero => omega
        | succ i' =>
          cases i with
          | zero =>
            simp only [List.getElem?_cons_zero, Option.some.injEq] at hy
            subst hy
            have := g6 _ (hd hdy).2 i' y' (by simpa using hy') hdy'
            rwa [show j + (i' + 1) = j + 1 + i' from by omega]
          | succ i =>
            have := g7 i i' y y' (by omega) (by simpa using hy) (by simpa using hy') hdy hdy'
            rwa [show j + (i' + 1) = j + 1 + i' from by omega, show j + (i + 1) = j + 1 + i from by omega]
    have doit : ∀ e1 : Env, find e1.slots = find e.slots → find e1.objs = find e.objs → e1.next = e.next → (o.guard = none ∨ Guarded all o (find e1.slots) fun want sv => sv = .one (.b want)) →
        evOpD Γ Δ k an o j rs e1 (fun rs' e' => evOpsD Γ Δ k all an l (j + 1) rs' e' K) = some r → Traced Γ Δ k all an n0 K r (o :: l) j rs (find e.slots) (find e.objs) := fun e1 h1 h2 h3 hg h' => by
      obtain ⟨x, e', g1, g2, g3, g4, g5, g6, g7⟩ := note (all := all) o (h3.trans hn) hg h'
      rw [h1, h2] at g1
      rw [h1] at g5
      rw [h2] at g6
      exact join x _ e' g1 (fun _ => ⟨g3, List.mem_cons_self⟩) (fun q hq => List.mem_cons_of_mem _ hq) g5 g6 g7 g4
    have skip : ∀ e1 : Env, find e1.slots = find e.slots → find e1.objs = find e.objs → e1.next = e.next → (Guarded all o (find e1.slots) fun want sv => sv = .one (.b (!want)) ∨ sv = .tup []) →
        evOpsD Γ Δ k all an l (j + 1) rs (skipD o e1) K = some r → Traced Γ Δ k all an n0 K r (o :: l) j rs (find e.slots) (find e.objs) := fun e1 h1 h2 h3 hg h' => by
      obtain ⟨x, g1, g2, g5, g6, g7⟩ := noteSkip (Γ := Γ) (Δ := Δ) (k := k) (all := all) o (h3.trans hn) hg
      rw [h1, h2] at g1
      rw [h1] at g5
      rw [h2] at g6
      exact join x rs _ g1 (fun hd => by rw [g2] at hd; cases hd) (fun q hq => hq) g5 g6 g7 h'
    unfold evOpsD at h
    cases hg : o.guard with
    | none =>
      rw [hg] at h
      exact doit e rfl rfl rfl (.inl hg) h
    | some p =>
      obtain ⟨g, want⟩ := p
      rw [hg] at h
      simp only at h
      cases hj : nth all g with
      | none => simp [hj] at h
      | some p =>
        simp only [hj] at h
        cases hds : p.dst with
        | none => simp [hds] at h
        | some s =>
          simp only [hds] at h
          cases hs : e.get s with
          | none => simp [hs] at h
          | some sv =>
            have hs' : find e.slots s = some sv := hs
            cases sv with
            | agg l => simp [hs] at h
            | tup l =>
              cases l with
              | cons => simp [hs] at h
              | nil =>
                simp only [hs] at h
                exact skip e rfl rfl rfl ⟨g, want, p, s, _, hg, hj, hds, hs', .inr rfl⟩ h
            | one y =>
              cases y with
              | b z =>
                simp only [hs] at h
                have hset : find (e.set s (.one (.b z))).slots = find e.slots := by
                  funext t
                  simp only [Env.set, find_cons]
                  by_cases ht : s = t
                  · subst ht; rw [if_pos rfl, hs']
                  · rw [if_neg ht]
                have hgd : ∀ b : Bool, (b = want → z = b → (o.guard = none ∨ Guarded all o (find (e.set s (.one (.b z))).slots) fun want sv => sv = .one (.b want))) := fun b hb hz => .inr ⟨g, want, p, s, .one (.b z), hg, hj, hds, by rw [hset]; exact hs', by rw [hz, hb]⟩
                have hgs : z = !want → Guarded all o (find (e.set s (.one (.b z))).slots) fun want sv => sv = .one (.b (!want)) ∨ sv = .tup [] := fun hz => ⟨g, want, p, s, .one (.b z), hg, hj, hds, by rw [hset]; exact hs', .inl (by rw [hz])⟩
                cases z <;> cases want <;> simp only [br, cond] at h
                · exact doit _ hset rfl rfl (hgd false rfl rfl) h
                · exact skip _ hset rfl rfl (hgs rfl) h
                · exact skip _ hset rfl rfl (hgs rfl) h
                · exact doit _ hset rfl rfl (hgd true rfl rfl) h
              | _ => simp [hs] at h
end
end Go.Ev
end
