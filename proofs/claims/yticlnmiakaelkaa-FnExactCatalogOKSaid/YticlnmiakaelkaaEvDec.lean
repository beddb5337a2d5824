/- Values out of cells, and back. -/
import Derived.Test.YticlnmiakaelkaaEvRel
set_option linter.unusedSimpArgs false
set_option linter.unusedVariables false
namespace Go.Ev
open Go.RowKit (Below)

/-- Cells as the value that stands in a slot. -/
def AsVal (t : Ty) (cs : List Value) (v : Value) : Prop := match t.isAgg with
  | true => v = .agg cs.toArray
  | false => cs = [v]

theorem RowAt.val {w : World} {G Gd : Nat → Prop} {T : Nat} {t : Ty} {xs : List t.den} {v : Value} (h : RowAt w G T t xs v) (hG : ∀ b, G b → Gd b)
    (hb : ∀ a n c, v = .slice (some a) n c → Gd a.block) : Val w Gd (.sl t) xs [v] := by
  rcases h with ⟨rfl, rfl⟩ | ⟨b, c, cs, e, hh, h1, h2, h3, hx⟩
  · exact ⟨none, 0, 0, rfl, rfl, Nat.le_refl _, fun j hj => absurd hj (by simp)⟩
  · subst e
    refine ⟨_, _, _, rfl, rfl, h1, fun j hj => ?_⟩
    obtain ⟨cs', hc, hv⟩ := hx j hj
    exact ⟨⟨b, 0, none⟩, cs', rfl, rfl, hb _ _ _ rfl, by simpa using hc, Val.mono (fun b hb => ⟨hG b hb, rfl⟩) _ _ _ hv⟩

section
variable {m : St} {os : List (Nat × Obj)} {st : Bool} {Gd : Nat → Prop}

theorem dec_val (ho : ∀ i o, find os i = some o → Ob m i o) (hG : ∀ b, m.G b → Gd b)
    (hR : st = false → ∀ i T u xs a n c, find os i = some (.row T u xs) → m.ν i = .slice (some a) n c → Gd a.block) :
    ∀ (t : Ty) (l : List V) (x : t.den) (r : List V) (cs : List Value), dec st os t l = some (x, r) → R2 (Lv m) l cs → ∃ c1 c2, cs = c1 ++ c2 ∧ Val m.w Gd t x c1 ∧ R2 (Lv m) r c2
  | .int k, l, x, r, cs, h, hl => by
    cases l with
    | nil => simp [dec] at h
    | cons v l =>
      cases cs with
      | nil => exact absurd hl (by simp [R2])
      | cons c cs =>
        obtain ⟨h1, h2⟩ := hl
        cases v with
        | i j n =>
          simp only [dec] at h
          cases hk : kEq k j with
          | false => simp [hk] at h
          | true =>
            simp only [hk, Option.some.injEq, Prod.mk.injEq] at h
            obtain ⟨rfl, rfl⟩ := h
            have e := kEq_eq hk
            subst e
            exact ⟨[c], cs, rfl, by simp only [Lv] at h1; simp [Val, h1], h2⟩
        | _ => simp [dec] at h
  | .bool, l, x, r, cs, h, hl => by
    cases l with
    | nil => simp [dec] at h
    | cons v l =>
      cases cs with
      | nil => exact absurd hl (by simp [R2])
      | cons c cs =>
        obtain ⟨h1, h2⟩ := hl
        cases v with
        | b y =>
          simp only [dec, Option.some.injEq, Prod.mk.injEq] at h
          obtain ⟨rfl, rfl⟩ := h
          exact ⟨[c], cs, rfl, by simp only [Lv] at h1; simp [Val, h1], h2⟩
        | _ => simp [dec] at h
  | .str, l, x, r, cs, h, hl => by
    cases l with
    | nil => simp [dec] at h
    | cons v l =>
      cases cs with
      | nil => exact absurd hl (by simp [R2])
      | cons c cs =>
        obtain ⟨h1, h2⟩ := hl
        cases v with
        | s y =>
          simp only [dec, Option.some.injEq, Prod.mk.injEq] at h
          obtain ⟨rfl, rfl⟩ := h
          obtain ⟨s, e, hs⟩ := h1
          exact ⟨[c], cs, rfl, ⟨s, by rw [e], hs⟩, h2⟩
        | _ => simp [dec] at h
  | .unit, l, x, r, cs, h, hl => by
    simp only [dec, Option.some.injEq, Prod.mk.injEq] at h
    obtain ⟨_, rfl⟩ := h
    exact ⟨[], cs, rfl, rfl, hl⟩
  | .pair a b, l, x, r, cs, h, hl => by
    simp only [dec] at h
    cases h1 : dec st os a l with
    | none => simp [h1] at h
    | some p =>
      obtain ⟨x1, r1⟩ := p
      simp only [h1] at h
      cases h2 : dec st os b r1 with
      | none => simp [h2] at h
      | some p =>
        obtain ⟨x2, r2⟩ := p
        simp only [h2, Option.some.injEq, Prod.mk.injEq] at h
        obtain ⟨rfl, rfl⟩ := h
        obtain ⟨c1, c2, rfl, hv1, hr1⟩ := dec_val ho hG hR a l x1 r1 cs h1 hl
        obtain ⟨c3, c4, rfl, hv2, hr2⟩ := dec_val ho hG hR b r1 x2 r2 c2 h2 hr1
        exact ⟨c1 ++ c3, c4, by simp, ⟨c1, c3, rfl, hv1, hv2⟩, hr2⟩
  | .sl t, l, x, r, cs, h, hl => by
    cases l with
    | nil => simp [dec] at h
    | cons v l =>
      cases cs with
      | nil => exact absurd hl (by simp [R2])
      | cons c cs =>
        obtain ⟨h1, h2⟩ := hl
        cases v with
        | sl u xs =>
          simp only [dec] at h
          cases hc : cast? (.sl u) (.sl t) xs with
          | none => simp [hc] at h
          | some ys =>
            simp only [hc, Option.some.injEq, Prod.mk.injEq] at h
            obtain ⟨rfl, rfl⟩ := h
            exact ⟨[c], cs, rfl, Val.cast hc (Val.mono (fun b hb => ⟨hG b hb, rfl⟩) (.sl u) xs [c] h1), h2⟩
        | nil =>
          simp only [dec, Option.some.injEq, Prod.mk.injEq] at h
          obtain ⟨rfl, rfl⟩ := h
          simp only [Lv] at h1
          subst h1
          exact ⟨[_], cs, rfl, ⟨none, 0, 0, rfl, rfl, Nat.le_refl _, fun j hj => absurd hj (by simp)⟩, h2⟩
        | row id =>
          simp only [dec] at h
          obtain ⟨_, e, _⟩ := h1
          subst e
          cases hf : find os id with
          | none => simp [hf] at h
          | some o =>
            have hob := ho id o hf
            cases o with
            | var vs => simp [hf] at h
            | row T u xs =>
              simp only [hf] at h
              cases st with
              | true => simp at h
              | false =>
                simp only at h
                cases hc : cast? (.sl u) (.sl t) xs with
                | none => simp [hc] at h
                | some ys =>
                  simp only [hc, Option.some.injEq, Prod.mk.injEq] at h
                  obtain ⟨rfl, rfl⟩ := h
                  exact ⟨[_], cs, rfl, Val.cast hc (RowAt.val hob hG fun a n c e => hR rfl id T u xs a n c hf e), h2⟩
            | frow u xs =>
              simp only [hf] at h
              cases hc : cast? (.sl u) (.sl t) xs with
              | none => simp [hc] at h
              | some ys =>
                simp only [hc, Option.some.injEq, Prod.mk.injEq] at h
                obtain ⟨rfl, rfl⟩ := h
                exact ⟨[_], cs, rfl, Val.cast hc (Val.mono (fun b hb => ⟨hG b hb, rfl⟩) (.sl u) xs _ hob), h2⟩
        | _ => simp [dec] at h

theorem decCells_val (ho : ∀ i o, find os i = some o → Ob m i o) (hG : ∀ b, m.G b → Gd b)
    (hR : st = false → ∀ i T u xs a n c, find os i = some (.row T u xs) → m.ν i = .slice (some a) n c → Gd a.block)
    {t : Ty} {l : List V} {x : t.den} {cs : List Value} (h : decCells st os t l = some x) (hl : R2 (Lv m) l cs) : Val m.w Gd t x cs := by
  unfold decCells at h
  cases hd : dec st os t l with
  | none => simp [hd] at h
  | some p =>
    obtain ⟨y, r⟩ := p
    cases r with
    | cons a r => simp [hd] at h
    | nil =>
      simp only [hd, Option.some.injEq] at h
      subst h
      obtain ⟨c1, c2, rfl, hv, hr⟩ := dec_val ho hG hR t l _ _ cs hd hl
      cases c2 with
      | nil => simpa using hv
      | cons => exact absurd hr (by simp [R2])

theorem decAll_val (ho : ∀ i o, find os i = some o → Ob m i o) (hG : ∀ b, m.G b → Gd b)
    (hR : st = false → ∀ i T u xs a n c, find os i = some (.row T u xs) → m.ν i = .slice (some a) n c → Gd a.block)
    {t : Ty} {s : SV} {x : t.den} {v : Value} (h : decAll st os t s = some x) (hs : Sv m s v) : ∃ cs, Val m.w Gd t x cs ∧ AsVal t cs v := by
  unfold decAll at h
  cases s with
  | tup l => simp at h
  | one y =>
    cases ha : t.isAgg with
    | true => simp [ha] at h
    | false =>
      simp only [ha] at h
      exact ⟨[v], decCells_val ho hG hR h ⟨hs, trivial⟩, by simp [AsVal, ha]⟩
  | agg l =>
    cases ha : t.isAgg with
    | false => simp [ha] at h
    | true =>
      simp only [ha] at h
      obtain ⟨cs, e, hr⟩ := hs
      exact ⟨cs, decCells_val ho hG hR h hr, by simp [AsVal, ha, e]⟩
end

theorem sv_ofTy {m : St} {t : Ty} {x : t.den} {cs : List Value} {v : Value} (h : Val m.w m.G t x cs) (ha : AsVal t cs v) : Sv m (ofTy t x) v := by
  unfold ofTy
  have he := Val.enc (m := m) h
  cases hg : t.isAgg with
  | true =>
    simp only [AsVal, hg] at ha
    exact ⟨cs, ha, he⟩
  | false =>
    simp only [AsVal, hg] at ha
    subst ha
    cases hE : enc t x [] with
    | nil => rw [hE] at he; exact absurd he (by simp [R2])
    | cons a l =>
      rw [hE] at he
      cases l with
      | nil => exact he.1
      | cons b l => exact absurd he.2 (by simp [R2])

/-- A value without slices stands whatever is written. -/
theorem Val.flat {w w' : World} {G G' : Nat → Prop} : ∀ {t : Ty} {x : t.den} {cs : List Value}, t.flat = true → Val w G t x cs → Val w' G' t x cs
  | .int _, _, _, _, h => h
  | .bool, _, _, _, h => h
  | .str, _, _, _, h => h
  | .unit, _, _, _, h => h
  | .pair a b, x, _, hf, ⟨c1, c2, e, h1, h2⟩ => by
    simp only [Ty.flat, Bool.and_eq_true] at hf
    exact ⟨c1, c2, e, Val.flat hf.1 h1, Val.flat hf.2 h2⟩
  | .sl _, _, _, hf, _ => by simp [Ty.flat] at hf

/-! ### single cells -/
theorem Lv.oneCell {m : St} : ∀ {x : V} {v : Value}, Lv m x v → v.oneCell' = true ∧ v.cells = #[v]
  | .i .., _, e => by simp only [Lv] at e; subst e; exact ⟨rfl, rfl⟩
  | .b _, _, e => by simp only [Lv] at e; subst e; exact ⟨rfl, rfl⟩
  | .s _, _, ⟨_, e, _⟩ => by subst e; exact ⟨rfl, rfl⟩
  | .nil, _, e => by simp only [Lv] at e; subst e; exact ⟨rfl, rfl⟩
  | .sl t xs, _, ⟨_, _, _, e, _⟩ => by simp only [List.cons.injEq, and_true] at e; subst e; exact ⟨rfl, rfl⟩
  | .row id, _, ⟨_, _, _, _, _, e⟩ => by subst e; exact ⟨rfl, rfl⟩
  | .loc id off, _, ⟨_, e⟩ => by subst e; exact ⟨rfl, rfl⟩
  | .el t x off, _, ⟨_, _, _, e, _⟩ => by subst e; exact ⟨rfl, rfl⟩
  | .rel id sz j off, _, ⟨_, _, _, _, _, _, e⟩ => by subst e; exact ⟨rfl, rfl⟩
  | .clo f caps, _, ⟨_, e, _⟩ => by subst e; exact ⟨rfl, rfl⟩
theorem R2.oneCells {m : St} : ∀ {l : List V} {cs : List Value}, R2 (Lv m) l cs → ∀ v ∈ cs, v.oneCell' = true
  | [], [], _, v, h => by simp at h
  | _ :: _, _ :: _, ⟨h, r⟩, v, hv => by
    rcases List.mem_cons.1 hv with e | e
    · subst e; exact h.oneCell.1
    · exact R2.oneCells r v e
/-- What a value's cells are. -/
theorem Sv.cells {m : St} {s : SV} {v : Value} (h : Sv m s v) (ht : s.isTup = false) : ∃ cs, v.cells = cs.toArray ∧ R2 (Lv m) s.cells cs := by
  cases s with
  | tup l => simp [SV.isTup] at ht
  | one x => exact ⟨[v], by rw [Lv.oneCell h |>.2], ⟨h, trivial⟩⟩
  | agg l =>
    obtain ⟨cs, e, hr⟩ := h
    exact ⟨cs, by rw [e]; rfl, hr⟩
theorem asSV_sv {m : St} {t : Ty} {l : List V} {cs : List Value} {s : SV} {v : Value} (h : asSV t l = some s) (hl : R2 (Lv m) l cs) (ha : AsVal t cs v) : Sv m s v := by
  unfold asSV at h
  cases hg : t.isAgg with
  | true =>
    simp only [hg, Option.some.injEq] at h
    subst h
    simp only [AsVal, hg] at ha
    exact ⟨cs, ha, hl⟩
  | false =>
    simp only [hg] at h
    simp only [AsVal, hg] at ha
    subst ha
    match l, hl, h with
    | [x], hl, h => simp only [Option.some.injEq] at h; subst h; exact hl.1
end Go.Ev
