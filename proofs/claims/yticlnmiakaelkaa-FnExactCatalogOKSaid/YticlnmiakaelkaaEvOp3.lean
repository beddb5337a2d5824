/- Stores. -/
import Derived.Test.YticlnmiakaelkaaEvOp2
set_option linter.unusedSimpArgs false
set_option linter.unusedVariables false
namespace Go.Ev
open Go.RowKit (Below)

theorem get_splice {α : Type} (l ys : List α) (p : Nat) (h : p + ys.length ≤ l.length) (i : Nat) :
    (l.take p ++ ys ++ l.drop (p + ys.length))[i]? = if i < p then l[i]? else if i < p + ys.length then ys[i - p]? else l[i]? := by
  have hp : (l.take p).length = p := by rw [List.length_take]; omega
  by_cases h1 : i < p
  · rw [if_pos h1, List.append_assoc, List.getElem?_append_left (by rw [hp]; exact h1), List.getElem?_take, if_pos h1]
  · rw [if_neg h1]
    by_cases h2 : i < p + ys.length
    · rw [if_pos h2, List.getElem?_append_left (by rw [List.length_append, hp]; exact h2), List.getElem?_append_right (by rw [hp]; omega), hp]
    · rw [if_neg h2, List.getElem?_append_right (by rw [List.length_append, hp]; omega), List.length_append, hp, List.getElem?_drop]
      congr 1
      omega
theorem splice_length {α : Type} (l ys : List α) (p : Nat) (h : p + ys.length ≤ l.length) : (l.take p ++ ys ++ l.drop (p + ys.length)).length = l.length := by
  simp only [List.length_append, List.length_take, List.length_drop]
  omega
theorem cells_get {w : World} {b : Nat} {cs : List Value} {T : Nat} {fr : Nat × Nat} (h : w.heap[b]? = some (.cells cs.toArray T fr)) (o : Nat) (l : List Value) : CellsAt w b o l ↔ ∀ j v, l[j]? = some v → cs[o + j]? = some v := by
  constructor
  · intro hc j v hv
    have := hc j v hv
    simp only [World.cell?, h] at this
    simpa using this
  · intro hc j v hv
    simp only [World.cell?, h]
    simpa using hc j v hv

section
variable {P : Program} {w0 : World} {G0 : Nat → Prop} {N : Nat} {F : List (Nat × Obj)} {m : St} {e : Env} {tm : Array Value} {Γ : Tab} {ρ : Type} {os : List (Nat × Obj)}

theorem below_setRow {B : Nat} {w w' : World} (h : Below B w w') {b : Nat} (hb : B ≤ b) (cs : Array Value) : Below B w (w'.setRow b cs) :=
  h.trans ⟨rfl, rfl, rfl, by simp [World.setRow], fun k hk => setRow_other _ _ _ _ (by omega)⟩

/-- A block of the frame's own is written. -/
theorem ObjsOk.wrote (h : ObjsOk w0 G0 m os) {i b : Nat} (hb : blk os m i = some b) (cs : Array Value) :
    m.le { m with w := m.w.setRow b cs } ∧ Below w0.heap.size w0 (m.w.setRow b cs) ∧ (∀ j c, j ≠ i → blk os m j = some c → (m.w.setRow b cs).heap[c]? = m.w.heap[c]?) ∧ m.w.heap.size = (m.w.setRow b cs).heap.size := by
  obtain ⟨o1, o2, o3, o4⟩ := h.out i b hb
  refine ⟨⟨fun c hc => ⟨hc, setRow_other _ _ _ _ fun e => o1 (e ▸ hc)⟩, fun c hc => ⟨hc, setRow_other _ _ _ _ fun e => o2 (e ▸ hc)⟩, fun _ h => h, fun _ _ => rfl, fun _ _ => rfl⟩, below_setRow h.base o4 cs, fun j c hj hc => setRow_other _ _ _ _ fun e => hj (h.inj j i b (e ▸ hc) hb), by simp [World.setRow]⟩

theorem store_sound (hΓ : TabOk P Γ) (hR : Rel w0 G0 N F m e tm) {T : Nat} {x : V} {s : SV} {xv v : Value} {K : SV → Env → Option ρ} {r : ρ} (h : evStore Γ T x s e K = some r) (hx : Lv m x xv) (hs : Sv m s v) :
    ∃ m' e', (Instr.storeAt T xv v).run P m.w = .ok () m'.w ∧ Stp m e m' e' ∧ m'.D = m.D ∧ Rel w0 G0 N F m' e' tm ∧ K (.tup []) e' = some r := by
  unfold evStore at h
  cases hf : find Γ T with
  | none => simp [hf] at h
  | some ti =>
    simp only [hf] at h
    have hT := hΓ T ti hf
    cases hlen : Nat.beq (lenN s.cells) ti.ty.size with
    | false => simp [hlen] at h
    | true =>
      cases htup : s.isTup with
      | true => simp [hlen, htup] at h
      | false =>
        simp only [hlen, htup] at h
        obtain ⟨vs, hvc, hr⟩ := hs.cells htup
        have hl : vs.length = ti.ty.size := by rw [← hr.length, ← lenN_eq]; exact Nat.eq_of_beq_eq_true hlen
        have h1 := hr.oneCells
        cases x with
        | loc id off =>
          obtain ⟨hid, rfl⟩ := hx
          simp only at h
          cases ho : e.obj id with
          | none => simp [ho] at h
          | some o =>
            cases o with
            | var us =>
              simp only [ho] at h
              obtain ⟨cs, U, hh, hrc⟩ := (hR.obj id _ ho).2
              cases hb : Nat.ble (off + ti.ty.size) (lenN us) with
              | false => simp [hb] at h
              | true =>
                simp only [hb] at h
                have hfit : off + vs.length ≤ us.length := by rw [hl, ← lenN_eq]; exact Nat.le_of_ble_eq_true hb
                have hbk : blk (e.objs ++ F) m id = some (m.β id) := blk_left (by
                  have ho' : find e.objs id = some (.var us) := ho
                  simp [blk, ho'])
                have hrun := run_store' (P := P) hT hh hvc hl (o := off) (by simp only [List.size_toArray]; rw [← hrc.length]; exact hfit) h1
                obtain ⟨hle, hbase, hoth, hsz⟩ := hR.ok.wrote hbk (cs.toArray.toList.take off ++ vs ++ cs.toArray.toList.drop (off + vs.length)).toArray
                refine ⟨_, e.setObj id (.var (paste us off s.cells)), hrun, .same hle rfl rfl, rfl, ?_, h⟩
                refine hR.objs hle _ _ (ObjsOk.congr (hR.ok.put hle id _ _ (find_left ho) hbase hoth (fun _ hb => hb) (fun _ hb => hb) hsz hR.ok.gh ?_ ?_) (upd_left _ ho)) (fun i o hf => ?_)
                · refine ⟨cs.take off ++ vs ++ cs.drop (off + vs.length), U, ?_, ?_⟩
                  · exact setRow_heap _ _ _ _ _ _ hh
                  · have hp := R2.paste hrc hr (n := off) (by rw [hr.length]; exact hfit)
                    exact hp.imp fun _ _ hx => Lv.le hle hx
                · intro b hb
                  have ho' : find (e.objs ++ F) id = some (.var us) := find_left ho
                  simp only [blk, find_upd, if_pos, ho', Option.map_some, Option.some.injEq] at hb ⊢
                  exact hb
                · rw [find_upd] at hf
                  by_cases hi : id = i
                  · subst hi; exact hR.disj _ _ ho
                  · rw [if_neg hi] at hf; exact hR.disj _ _ hf
            | _ => simp [ho] at h
        | rel id sz j off =>
          obtain ⟨m1, hl1, hw1, hD1, hR1⟩ := hR.freeze (rowIds s.cells)
          have hx1 := Lv.le hl1 hx
          have hr1 := hr.imp fun _ _ hx => Lv.le hl1 hx
          have hnx : (e.freeze (rowIds s.cells)).next = e.next := rfl
          have hsl : (e.freeze (rowIds s.cells)).slots = e.slots := rfl
          generalize e.freeze (rowIds s.cells) = e1 at h hR1 hnx hsl
          clear hx
          obtain ⟨hid, b, n, c, hν, hj, rfl⟩ := hx1
          simp only at h
          cases ho : e1.obj id with
          | none => simp [ho] at h
          | some o =>
            cases o with
            | row U t xs =>
              simp only [ho] at h
              have hob := (hR1.obj id _ ho).2
              cases hsz : Nat.beq sz t.size with
              | false => simp [hsz] at h
              | true =>
                have hsz' := Nat.eq_of_beq_eq_true hsz
                subst hsz'
                cases hb : Nat.ble (off + ti.ty.size) t.size with
                | false => simp [hsz, hb] at h
                | true =>
                  simp only [hsz, hb] at h
                  generalize hy : xs.getD j t.zero = y at h
                  cases hd : decCells true e1.objs t (paste (enc t y []) off s.cells) with
                  | none => simp [hd] at h
                  | some y' =>
                    simp only [hd] at h
                    have hfit : off + vs.length ≤ t.size := by rw [hl]; exact Nat.le_of_ble_eq_true hb
                    rcases hob with ⟨e2, _⟩ | ⟨b', c', cs, e2, hh, h2, h3, h4, hx⟩
                    · rw [hν] at e2; simp at e2
                    · rw [hν] at e2
                      simp only [Value.slice.injEq, Option.some.injEq, Addr.mk.injEq, and_true] at e2
                      obtain ⟨rfl, rfl, rfl⟩ := e2
                      obtain ⟨cj, hcj, hvj⟩ := hx j hj
                      rw [hy] at hvj
                      have hcl : cj.length = t.size := hvj.length
                      have hin : j * t.size + off + vs.length ≤ cs.length := by
                        rw [h4]
                        have : (j + 1) * t.size ≤ c * t.size := Nat.mul_le_mul_right _ (by omega)
                        rw [Nat.add_mul, Nat.one_mul] at this
                        omega
                      have hbk : blk (e1.objs ++ F) m1 id = some b := blk_left (by
                        have ho' : find e1.objs id = some (.row U t xs) := ho
                        simp [blk, ho', hν, Value.ownBlock])
                      have hrun := run_store' (P := P) hT hh hvc hl (o := j * t.size + off) (by simpa using hin) h1
                      obtain ⟨hle, hbase, hoth, hsz2⟩ := hR1.ok.wrote hbk (cs.toArray.toList.take (j * t.size + off) ++ vs ++ cs.toArray.toList.drop (j * t.size + off + vs.length)).toArray
                      have hnew := setRow_heap m1.w b _ (cs.toArray.toList.take (j * t.size + off) ++ vs ++ cs.toArray.toList.drop (j * t.size + off + vs.length)).toArray _ _ hh
                      refine ⟨_, e1.setObj id (.row U t (xs.set j y')), (by rw [← hw1]; exact hrun), .same (hl1.trans hle) hD1 hnx hsl, hD1, ?_, h⟩
                      refine hR1.objs hle _ _ (ObjsOk.congr (hR1.ok.put hle id _ _ (find_left ho) hbase hoth (fun _ hb => hb) (fun _ hb => hb) hsz2 hR1.ok.gh ?_ ?_) (upd_left _ ho)) (fun i o hf => ?_)
                      · -- the row behind the store
                        refine .inr ⟨b, c, _, ?_, hnew, by simpa using h2, h3, ?_, ?_⟩
                        · show m1.ν id = _
                          rw [hν]; simp
                        · rw [splice_length _ _ _ hin]; exact h4
                        · intro j' hj'
                          simp only [List.length_set] at hj'
                          by_cases hjj : j' = j
                          · subst hjj
                            refine ⟨cj.take off ++ vs ++ cj.drop (off + vs.length), ?_, ?_⟩
                            · rw [cells_get hnew]
                              intro q u hq
                              rw [get_splice _ _ _ (by rw [hcl]; exact hfit)] at hq
                              rw [get_splice _ _ _ hin]
                              have hold := (cells_get hh _ _).1 hcj
                              by_cases q1 : q < off
                              · rw [if_pos q1] at hq
                                rw [if_pos (by omega)]
                                exact hold q u hq
                              · rw [if_neg q1] at hq
                                rw [if_neg (by omega)]
                                by_cases q2 : q < off + vs.length
                                · rw [if_pos q2] at hq
                                  rw [if_pos (by omega)]
                                  have : j' * t.size + q - (j' * t.size + off) = q - off := by omega
                                  rw [this]; exact hq
                                · rw [if_neg q2] at hq
                                  rw [if_neg (by omega)]
                                  exact hold q u hq
                            · have hgd : (xs.set j' y').getD j' t.zero = y' := by
                                simp [List.getD_eq_getElem?_getD, List.getElem?_set, hj']
                              rw [hgd]
                              have hpv := R2.paste (Val.enc hvj) hr1 (n := off) (by rw [(Val.enc hvj).length, hr1.length, hcl]; exact hfit)
                              have := decCells_val (Gd := m1.G) (fun i o hi => (hR1.obj i o hi).2) (fun _ h => h) (fun h => by simp at h) hd hpv
                              exact Val.le hle this
                          · obtain ⟨cj', hcj', hvj'⟩ := hx j' hj'
                            refine ⟨cj', ?_, ?_⟩
                            · rw [cells_get hnew]
                              intro q u hq
                              have hq' : q < t.size := by
                                have := hvj'.length
                                have := (List.getElem?_eq_some_iff.1 hq).1
                                omega
                              rw [get_splice _ _ _ hin]
                              have hold := (cells_get hh _ _).1 hcj' q u hq
                              by_cases hlt : j' < j
                              · have : (j' + 1) * t.size ≤ j * t.size := Nat.mul_le_mul_right _ hlt
                                rw [Nat.add_mul, Nat.one_mul] at this
                                rw [if_pos (by omega)]
                                exact hold
                              · have : (j + 1) * t.size ≤ j' * t.size := Nat.mul_le_mul_right _ (by omega)
                                rw [Nat.add_mul, Nat.one_mul] at this
                                rw [if_neg (by omega), if_neg (by omega)]
                                exact hold
                            · have hgd : (xs.set j y').getD j' t.zero = xs.getD j' t.zero := by
                                simp [List.getD_eq_getElem?_getD, List.getElem?_set, Ne.symm hjj]
                              rw [hgd]
                              exact Val.le hle hvj'
                      · intro b' hb'
                        have ho' : find (e1.objs ++ F) id = some (.row U t xs) := find_left ho
                        simp only [blk, find_upd, if_pos, ho', Option.map_some] at hb' ⊢
                        exact hb'
                      · rw [find_upd] at hf
                        by_cases hi : id = i
                        · subst hi; exact hR1.disj _ _ ho
                        · rw [if_neg hi] at hf; exact hR1.disj _ _ hf
            | _ => simp [ho] at h
        | _ => simp at h
end
end Go.Ev
