/- The evaluator and its soundness, part 5. -/
import Derived.Test.YticlnmiakaelkaaFlEvD
import Derived.Test.YticlnmiakaelkaaFlEvA
section
/- Calls. -/
set_option linter.unusedSimpArgs false
set_option linter.unusedVariables false
set_option linter.unusedSectionVars false
namespace Go.Ev
open Go.RowKit (Below)

theorem Val.closed {w w' : World} {G G' : Nat → Prop} : ∀ {t : Ty} {x : t.den} {cs : List Value}, t.closed = true → Val w G t x cs → Val w' G' t x cs
  | .int _, _, _, _, h => h
  | .bool, _, _, _, h => h
  | .str, _, _, _, h => h
  | .unit, _, _, _, h => h
  | .osl _ _, _, _, _, h => h
  | .pair a b, x, _, hf, ⟨c1, c2, e, h1, h2⟩ => by
    simp only [Ty.closed, Bool.and_eq_true] at hf
    exact ⟨c1, c2, e, Val.closed hf.1 h1, Val.closed hf.2 h2⟩
  | .sl _, _, _, hf, _ => by simp [Ty.closed] at hf
  | .any, _, _, hf, _ => by simp [Ty.closed] at hf
theorem Inn.closed {w : World} {G G' : Nat → Prop} : ∀ {t : Ty} {x : t.den} {cs : List Value} {bl : List Nat}, t.closed = true → Inn w G t x cs bl → Inn w G' t x cs bl
  | .int _, _, _, _, _, h | .bool, _, _, _, _, h | .str, _, _, _, _, h | .unit, _, _, _, _, h => h
  | .pair a b, x, _, _, hf, ⟨c1, c2, b1, b2, e1, e2, e3, h1, h2⟩ => by
    simp only [Ty.closed, Bool.and_eq_true] at hf
    exact ⟨c1, c2, b1, b2, e1, e2, e3, Inn.closed hf.1 h1, Inn.closed hf.2 h2⟩
  | .sl _, _, _, _, hf, _ => by simp [Ty.closed] at hf
  | .any, _, _, _, hf, _ => by simp [Ty.closed] at hf
  | .osl T t, xs, _, _, hf, ⟨v, e, hr, hi⟩ => by
    have ht : t.closed = true := hf
    refine ⟨v, e, ?_, ?_⟩
    · rcases hr with h | ⟨b, c, cs, e, hh, h1, h2, h3, hx⟩
      · exact .inl h
      · exact .inr ⟨b, c, cs, e, hh, h1, h2, h3, fun j hj => by
          obtain ⟨cs', k1, k2⟩ := hx j hj
          exact ⟨cs', k1, Val.closed ht k2⟩⟩
    · rcases hi with h | ⟨b, e, bls, e2, hl, hx⟩
      · exact .inl h
      · exact .inr ⟨b, e, bls, e2, hl, fun j hj => by
          obtain ⟨cs, k1, k2, k3⟩ := hx j hj
          exact ⟨cs, k1, k2, Inn.closed ht k3⟩⟩
theorem ResG.closed {w : World} {G G' : Nat → Prop} : ∀ {ps : List (Sigma Ty.den)} {l : List Value} {bl : List Nat}, (∀ p ∈ ps, p.1.closed = true) → ResG w G ps l bl → ResG w G' ps l bl
  | [], _, _, _, h => h
  | p :: ps, v :: l, bl, hc, ⟨b1, b2, e, ⟨cs, h1, h2, h3⟩, h4⟩ => ⟨b1, b2, e, ⟨cs, h1, Val.closed (hc p List.mem_cons_self) h2, Inn.closed (hc p List.mem_cons_self) h3⟩, ResG.closed (fun q hq => hc q (List.mem_cons_of_mem _ hq)) h4⟩
  | _ :: _, [], _, _, h => h.elim
theorem OutG.closed {w : World} {G G' : Nat → Prop} {a : AT} {p : Sigma Ty.den} {v : Value} {bl : List Nat} (hc : p.1.closed = true) (h : OutG w G a p v bl) : OutG w G' a p v bl := by
  cases a with
  | var t =>
    obtain ⟨ht, b, cs, T, bl', h1, h2, h3, h4, h5⟩ := h
    exact ⟨ht, b, cs, T, bl', h1, h2, Val.closed hc h3, Inn.closed hc h4, h5⟩
  | io t =>
    obtain ⟨ht, cs, h1, h2, h3⟩ := h
    exact ⟨ht, cs, h1, Val.closed hc h2, Inn.closed hc h3⟩
  | _ => exact h.elim
theorem OutsG.closed {w : World} {G G' : Nat → Prop} : ∀ {ats : List AT} {l : List Value} {ps : List (Sigma Ty.den)} {bl : List Nat}, (∀ p ∈ ps, p.1.closed = true) → OutsG w G ats l ps bl → OutsG w G' ats l ps bl
  | [], [], _, _, _, h => h
  | [], _ :: _, _, _, _, h => h.elim
  | _ :: _, [], _, _, _, h => h.elim
  | a :: r, v :: l, ps, bl, hc, h => by
    simp only [OutsG] at h ⊢
    cases hi : isIo a with
    | false => simp only [hi] at h ⊢; exact OutsG.closed hc h
    | true =>
      simp only [hi] at h ⊢
      obtain ⟨p, ps', b1, b2, rfl, e2, h1, h2⟩ := h
      exact ⟨p, ps', b1, b2, rfl, e2, OutG.closed (hc p List.mem_cons_self) h1, OutsG.closed (fun q hq => hc q (List.mem_cons_of_mem _ hq)) h2⟩
theorem Val.grow {w : World} {G G' : Nat → Prop} (hG : ∀ b, G b → G' b) {t : Ty} {x : t.den} {cs : List Value} (h : Val w G t x cs) : Val w G' t x cs := Val.mono (fun b hb => ⟨hG b hb, rfl⟩) t x cs h
theorem ResG.grow {w : World} {G G' : Nat → Prop} (hG : ∀ b, G b → G' b) : ∀ {ps : List (Sigma Ty.den)} {l : List Value} {bl : List Nat}, ResG w G ps l bl → ResG w G' ps l bl
  | [], _, _, h => h
  | p :: ps, v :: l, bl, ⟨b1, b2, e, ⟨cs, h1, h2, h3⟩, h4⟩ => ⟨b1, b2, e, ⟨cs, h1, h2.grow hG, h3.grow hG⟩, ResG.grow hG h4⟩
  | _ :: _, [], _, h => h.elim
theorem OutG.grow {w : World} {G G' : Nat → Prop} (hG : ∀ b, G b → G' b) {a : AT} {p : Sigma Ty.den} {v : Value} {bl : List Nat} (h : OutG w G a p v bl) : OutG w G' a p v bl := by
  cases a with
  | var t =>
    obtain ⟨ht, b, cs, T, bl', h1, h2, h3, h4, h5⟩ := h
    exact ⟨ht, b, cs, T, bl', h1, h2, h3.grow hG, h4.grow hG, h5⟩
  | io t =>
    obtain ⟨ht, cs, h1, h2, h3⟩ := h
    exact ⟨ht, cs, h1, h2.grow hG, h3.grow hG⟩
  | _ => exact h.elim
theorem OutsG.grow {w : World} {G G' : Nat → Prop} (hG : ∀ b, G b → G' b) : ∀ {ats : List AT} {l : List Value} {ps : List (Sigma Ty.den)} {bl : List Nat}, OutsG w G ats l ps bl → OutsG w G' ats l ps bl
  | [], [], _, _, h => h
  | [], _ :: _, _, _, h => h.elim
  | _ :: _, [], _, _, h => h.elim
  | a :: r, v :: l, ps, bl, h => by
    simp only [OutsG] at h ⊢
    cases hi : isIo a with
    | false => simp only [hi] at h ⊢; exact OutsG.grow hG h
    | true =>
      simp only [hi] at h ⊢
      obtain ⟨p, ps', b1, b2, rfl, e2, h1, h2⟩ := h
      exact ⟨p, ps', b1, b2, rfl, e2, h1.grow hG, OutsG.grow hG h2⟩
theorem parts_closed : ∀ {ts : List Ty} {y : den1 ts}, closedAll ts = true → ∀ p ∈ parts ts y, p.1.closed = true
  | [], _, _, p, h => by simp [parts] at h
  | [t], x, hc, p, h => by
    simp only [closedAll, Bool.and_true] at hc
    simp only [parts, List.mem_singleton] at h
    subst h; exact hc
  | t :: u :: r, x, hc, p, h => by
    simp only [closedAll, Bool.and_eq_true] at hc
    simp only [parts, List.mem_cons] at h
    rcases h with h | h
    · subst h; exact hc.1
    · exact parts_closed (ts := u :: r) (y := x.2) (by simp only [closedAll, Bool.and_eq_true]; exact hc.2) p h

theorem noOwn_ids : ∀ {t : Ty} {l : List V}, t.noOwn = true → idsT t l = []
  | .osl _ _, _, h => by simp [Ty.noOwn] at h
  | .pair a b, l, h => by
    simp only [Ty.noOwn, Bool.and_eq_true] at h
    simp only [idsT, noOwn_ids h.1, noOwn_ids h.2, List.append_nil]
  | .int _, _, _ | .bool, _, _ | .str, _, _ | .sl _, _, _ | .unit, _, _ | .any, _, _ => rfl
section
variable {st : Bool} {os ov : List (Nat × Obj)}
theorem takeC_ids : ∀ {t : Ty} {l : List V} {x : t.den}, takeC st os ov t l = some x → ∀ i ∈ idsT t l, ∃ o, find os i = some o
  | .pair a b, l, x, h, i, hi => by
    simp only [takeC] at h
    simp only [idsT, List.mem_append] at hi
    cases h1 : takeC st os ov a (takeN a.size l) with
    | none => simp [h1] at h
    | some y =>
      cases h2 : takeC st os ov b (dropN a.size l) with
      | none => simp [h1, h2] at h
      | some z =>
        rcases hi with hi | hi
        · exact takeC_ids h1 i hi
        · exact takeC_ids h2 i hi
  | .osl T t, l, x, h, i, hi => by
    match l with
    | [] => simp [idsT] at hi
    | _ :: _ :: _ => rename_i v _ _; cases v <;> simp [idsT] at hi
    | [v] =>
      cases v with
      | row id =>
        simp only [idsT, List.mem_singleton] at hi
        subst hi
        simp only [takeC] at h
        cases hf : find os i with
        | none => simp [hf] at h
        | some o => exact ⟨o, rfl⟩
      | rng id sz lo hi' =>
        simp only [idsT, List.mem_singleton] at hi
        subst hi
        cases lo with
        | succ => simp [takeC] at h
        | zero =>
          simp only [takeC] at h
          cases hf : find os i with
          | none => simp [hf] at h
          | some o => exact ⟨o, rfl⟩
      | sub id n sz j off => simp [takeC] at h
      | _ => simp [idsT] at hi
  | .int _, _, _, _, i, hi | .bool, _, _, _, i, hi | .str, _, _, _, i, hi | .sl _, _, _, _, i, hi | .unit, _, _, _, i, hi | .any, _, _, _, i, hi => by simp [idsT] at hi
theorem takeT_ids {t : Ty} {l : List V} {x : t.den} (h : takeT st os ov t l = some x) : ∀ i ∈ idsT t l, ∃ o, find os i = some o := by
  unfold takeT at h
  cases ht : t.noOwn with
  | true => intro i hi; rw [noOwn_ids ht] at hi; simp at hi
  | false => rw [ht] at h; exact takeC_ids h
theorem takeSV_ids {t : Ty} {s : SV} {x : t.den} (h : takeSV st os ov t s = some x) : ∀ i ∈ idsT t s.cells, ∃ o, find os i = some o := by
  unfold takeSV at h
  cases s with
  | tup l => simp at h
  | one y =>
    cases ha : t.isAgg with
    | true => simp [ha] at h
    | false => simp only [ha] at h; exact takeT_ids h
  | agg l =>
    cases ha : t.isAgg with
    | false => simp [ha] at h
    | true => simp only [ha] at h; exact takeT_ids h
theorem bindG1_ids {a : AT} {s : SV} {x : a.den} (h : bindG1 st os ov a s = some x) : ∀ i ∈ ids1 os a s, ∃ o, find os i = some o := by
  cases a with
  | var t =>
    cases s with
    | one y =>
      cases y with
      | loc id off =>
        cases off with
        | succ => simp [bindG1, bindArg] at h
        | zero =>
          simp only [bindG1] at h
          cases hf : find os id with
          | none => simp [hf] at h
          | some o =>
            cases o with
            | var l =>
              simp only [hf] at h
              intro i hi
              simp only [ids1, hf, List.mem_cons] at hi
              rcases hi with hi | hi
              · subst hi; exact ⟨_, hf⟩
              · exact takeC_ids h i hi
            | _ => simp [hf] at h
      | _ => simp [bindG1, bindArg] at h
    | _ => simp [bindG1, bindArg] at h
  | own t => exact fun i hi => takeSV_ids (by simpa only [bindG1] using h) i (by cases s <;> exact hi)
  | io t =>
    by_cases hsub : ∃ T u id n sz j off, t = .osl T u ∧ s = .one (.sub id n sz j off)
    · obtain ⟨T, u, id, n, sz, j, off, rfl, rfl⟩ := hsub
      simp only [bindG1] at h
      intro i hi
      simp only [ids1, idsT, SV.cells, List.mem_singleton] at hi
      subst hi
      cases hf : find os i with
      | none => simp [hf] at h
      | some o => exact ⟨o, rfl⟩
    · have h' : takeSV st os ov t s = some x := by
        cases t with
        | osl T u =>
          cases s with
          | one y =>
            cases y with
            | sub id n sz j off => exact absurd ⟨T, u, id, n, sz, j, off, rfl, rfl⟩ hsub
            | _ => exact h
          | _ => exact h
        | _ => exact h
      exact fun i hi => takeSV_ids h' i (by cases s <;> exact hi)
  | _ => intro i hi; simp [ids1] at hi
theorem bindG_ids : ∀ {ats : List AT} {vs : List SV} {x : ATs.den ats}, bindG st os ov ats vs = some x → ∀ i ∈ ioIds os ats vs, ∃ o, find os i = some o
  | [], [], _, _, i, hi => by simp [ioIds] at hi
  | [], _ :: _, _, h, _, _ => by simp [bindG] at h
  | _ :: _, [], _, h, _, _ => by simp [bindG] at h
  | a :: r, v :: vs, x, h, i, hi => by
    simp only [bindG] at h
    simp only [ioIds, List.mem_append] at hi
    cases hx : bindG1 st os ov a v with
    | none => simp [hx] at h
    | some y =>
      cases hy : bindG st os ov r vs with
      | none => simp [hx, hy] at h
      | some z =>
        rcases hi with hi | hi
        · exact bindG1_ids hx i hi
        · exact bindG_ids hy i hi
end
theorem Kept.with {B : Base} {w w' : World} {M : Nat → Prop} {pins : List (Nat × Value)} (h : Kept B w) (k : Kept ⟨w, B.o, M, pins⟩ w') (hM : ∀ b, M b → Mine B b) : Kept B w' :=
  ⟨k.os.trans h.os, k.tape.trans h.tape, k.output.trans h.output, Nat.le_trans h.size k.size, fun i hi hm => (k.block i (Nat.lt_of_lt_of_le hi h.size) fun hMi => by
    rcases hM i hMi with q | q
    · exact absurd hi (Nat.not_lt.2 q)
    · exact hm q).trans (h.block i hi hm), k.old, h.oldM, h.oldS⟩

section
variable {P : Program} {w0 : Base} {G0 : Nat → Prop} {N : Nat} {F : List (Nat × Obj)} {m : St} {e : Env} {tm : Array Value} {Γ : Tab} {ρ : Type} {os : List (Nat × Obj)} {st : Bool}

/-- What a call that hands memory over answers with. -/
def Called (w0 : Base) (G0 : Nat → Prop) (N : Nat) (F : List (Nat × Obj)) (m : St) (e : Env) (tm : Array Value) (K : SV → Env → Option ρ) (r : ρ) (en : Ending) (w' : World) : Prop :=
  ∃ v m' e' s, en = .returned v ∧ m'.w = w' ∧ Stp m e m' e' ∧ Rel w0 G0 N F m' e' tm ∧ Sv m' s v ∧ K s e' = some r

theorem callG_tail {f k : Nat} {c : Con} {vs : List SV} {args : List Value} {K : SV → Env → Option ρ} {r : ρ} (hcon : GenCon P w0.o f c) (hR : Rel w0 G0 N F m e tm) (hfr : Fr m e) (hvs : R2 (Sv m) vs args)
    {fl : List Nat} {Gd Hd : Nat → Prop} {x : ATs.den c.args} {y : den1 c.res} (hnd : (ioIds e.objs c.args vs).Nodup) (hy : c.fn k x = some y) {m1 : St} (hl1 : m.le m1) (hw1 : m1.w = m.w) (hD1 : m1.D = m.D) (hν1 : m1.ν = m.ν)
    (hR1 : Rel w0 G0 N F m1 ⟨e.slots, freezeAll fl (eraseAll (ioIds e.objs c.args vs) e.objs), e.next⟩ tm)
    (hap : ∀ i b, i ∈ ioIds e.objs c.args vs → blk e.objs m1 i b → (¬ m1.G b ∧ ¬ m1.H b ∧ b < m1.w.heap.size ∧ Mine w0 b) ∧ ∀ j, ¬ blk (freezeAll fl (eraseAll (ioIds e.objs c.args vs) e.objs) ++ F) m1 j b)
    (hk : Tk m1 e.objs (freezeAll fl (eraseAll (ioIds e.objs c.args vs) e.objs)) st Gd) (hbind : bindG st e.objs (freezeAll fl (eraseAll (ioIds e.objs c.args vs) e.objs)) c.args vs = some x)
    (hGd : ∀ b, Gd b → m1.G b ∨ ∃ i, blk (freezeAll fl (eraseAll (ioIds e.objs c.args vs) e.objs) ++ F) m1 i b) (hHd : ∀ b, Hd b ↔ m1.H b ∨ ∃ i, blk (freezeAll fl (eraseAll (ioIds e.objs c.args vs) e.objs) ++ F) m1 i b)
    (hm : closedAll c.res = true ∨ Gd = m1.G) (h : backG nmW c vs e.objs e.next ⟨e.slots, freezeAll fl (eraseAll (ioIds e.objs c.args vs) e.objs), e.next⟩ y K = some r) :
    Calls P f args.toArray m.w (Called w0 G0 N F m e tm K r) := by
  generalize hov : freezeAll fl (eraseAll (ioIds e.objs c.args vs) e.objs) = ov at hR1 hap hk hbind hGd hHd h
  have hvs1 : R2 (Sv m1) vs args := hvs.imp fun _ _ hx => Sv.le hl1 hx
  obtain ⟨bl, cl, a1, a2, a3, a4⟩ := bindG_sound (Hd := Hd) hk (fun b hb => (hHd b).2 (.inl hb)) (fun i vs hf => (hHd _).2 (.inr ⟨i, blk_left (by unfold blk; rw [hf])⟩)) _ _ _ _ hnd hbind hvs1
  have hids := bindG_ids hbind
  have hout : ∀ b ∈ bl ++ cl, (¬ m1.G b ∧ ¬ m1.H b ∧ b < m1.w.heap.size ∧ Mine w0 b) ∧ ∀ j, ¬ blk (ov ++ F) m1 j b := fun b hb => by
    obtain ⟨i, hi, hbi⟩ := a4 b hb
    exact hap i b hi hbi
  have hnG : ∀ b ∈ bl, ¬ Gd b := fun b hb hg => by
    obtain ⟨⟨o1, _⟩, o5⟩ := hout b (List.mem_append_left _ hb)
    exact (hGd b hg).elim o1 fun ⟨j, hj⟩ => o5 j hj
  have hnH : ∀ b ∈ bl, ¬ Hd b := fun b hb hg => by
    obtain ⟨⟨_, o2, _⟩, o5⟩ := hout b (List.mem_append_left _ hb)
    exact ((hHd b).1 hg).elim o2 fun ⟨j, hj⟩ => o5 j hj
  have hblk1 : ∀ j b, blk (ov ++ F) m1 j b → b < m1.w.heap.size := fun j b hj => (hR1.ok.out j b hj).2.2.1
  have hGlive : ∀ b, Gd b → b < m1.w.heap.size := fun b hb => (hGd b hb).elim (hR1.ok.liveG b) fun ⟨j, hj⟩ => hblk1 j b hj
  have hHlive : ∀ b, Hd b → b < m1.w.heap.size := fun b hb => ((hHd b).1 hb).elim (hR1.ok.liveH b) fun ⟨j, hj⟩ => hblk1 j b hj
  have hmine : ∀ b, Mine w0 b → w0.o.heap.size ≤ b := fun b hb => by
    rcases hb with hb | hb
    · exact Nat.le_trans hR1.ok.base.oldS hb
    · exact hR1.ok.base.oldM b hb
  have n12 := List.nodup_append.1 a3
  rw [← hw1]
  refine Calls.mono (hcon k x y m1.w Gd Hd args bl hR1.ok.base.old hGlive hHlive (fun b hb => (hHd b).2 ((hGd b hb).imp (hR1.ok.gh b) fun h => h)) a1 n12.1 (fun b hb => ⟨hnG b hb, hnH b hb, (hout b (List.mem_append_left _ hb)).1.2.2.1, hmine b (hout b (List.mem_append_left _ hb)).1.2.2.2⟩) hy) ?_
  rintro en w' ⟨l, G', b1, b2, rfl, hkept, hG', hres, houts, hnd2, hb12⟩
  -- the views there are then
  obtain ⟨G2, hG2a, hG2b, hG2c, hres2, houts2⟩ : ∃ G2 : Nat → Prop, (∀ b, m1.G b → G2 b) ∧ (∀ b, G2 b → (m1.G b ∨ m1.w.heap.size ≤ b ∨ b ∈ bl) ∧ b < w'.heap.size) ∧ (∀ b ∈ b1 ++ b2, ¬ G2 b) ∧
      ResG w' G2 (takeN c.nres (parts c.res y)) l b1 ∧ OutsG w' G2 c.args args (dropN c.nres (parts c.res y)) b2 := by
    rcases hm with hcl | hgd
    · have hpc := parts_closed (y := y) hcl
      refine ⟨m1.G, fun _ h => h, fun b hb => ⟨.inl hb, Nat.lt_of_lt_of_le (hR1.ok.liveG b hb) hkept.size⟩, fun b hb hg => ?_, ResG.closed (fun p hp => hpc p (by rw [takeN_eq] at hp; exact List.mem_of_mem_take hp)) hres, OutsG.closed (fun p hp => hpc p (by rw [dropN_eq] at hp; exact List.mem_of_mem_drop hp)) houts⟩
      rcases (hb12 b hb).2.2 with h | h
      · have := hR1.ok.liveG b hg; omega
      · exact (hout b (List.mem_append_left _ h)).1.1 hg
    · subst hgd
      refine ⟨fun b => m1.G b ∨ G' b, fun _ h => .inl h, fun b hb => ?_, fun b hb hg => ?_, ?_, ?_⟩
      · rcases hb with hb | hb
        · exact ⟨.inl hb, Nat.lt_of_lt_of_le (hR1.ok.liveG b hb) hkept.size⟩
        · exact hG' b hb
      · rcases hg with hg | hg
        · rcases (hb12 b hb).2.2 with h | h
          · have := hR1.ok.liveG b hg; omega
          · exact (hout b (List.mem_append_left _ h)).1.1 hg
        · exact (hb12 b hb).1 hg
      · exact ResG.grow (fun b hb => .inr hb) hres
      · exact OutsG.grow (fun b hb => .inr hb) houts
  let m2 : St := { m1 with w := w', G := G2, H := fun b => m1.H b ∨ G2 b }
  have hsame : ∀ b, b < m1.w.heap.size → b ∉ bl → w'.heap[b]? = m1.w.heap[b]? := fun b hb hn => hkept.block b hb hn
  have hle : m1.le m2 := ⟨fun b hb => ⟨hG2a b hb, hsame b (hR1.ok.liveG b hb) fun h => (hout b (List.mem_append_left _ h)).1.1 hb⟩, fun b hb => ⟨.inl hb, hsame b (hR1.ok.liveH b hb) fun h => (hout b (List.mem_append_left _ h)).1.2.1 hb⟩, fun _ h => h, fun _ _ => rfl, fun _ _ => rfl, fun _ _ => rfl, fun _ _ => rfl⟩
  have hbase2 : Kept w0 w' := hR1.ok.base.with hkept fun b hb => (hout b (List.mem_append_left _ hb)).1.2.2.2
  have hnobody : ∀ b, (m1.w.heap.size ≤ b ∨ b ∈ bl) → Mine w0 b ∧ ∀ i, ¬ blk (ov ++ F) m1 i b := fun b hb => by
    rcases hb with h | h
    · exact ⟨.inl (Nat.le_trans hR1.ok.base.size h), fun i hi => by have := hblk1 i b hi; omega⟩
    · exact ⟨(hout b (List.mem_append_left _ h)).1.2.2.2, (hout b (List.mem_append_left _ h)).2⟩
  have hR2 : Rel w0 G0 N F m2 ⟨e.slots, ov, e.next⟩ tm := hR1.world hle (hR1.ok.world2 hle hbase2 (fun i b hb => hsame b (hblk1 i b hb) fun h => (hout b (List.mem_append_left _ h)).2 i hb) (fun b hb => ⟨(hG2b b hb).1.imp (fun h => h) (hnobody b), (hG2b b hb).2⟩) (fun b hb => by
    rcases hb with hb | hb
    · exact ⟨.inl hb, Nat.lt_of_lt_of_le (hR1.ok.liveH b hb) hkept.size⟩
    · exact ⟨(hG2b b hb).1.imp (hR1.ok.gh b) (hnobody b), (hG2b b hb).2⟩) hkept.size fun b hb => .inr hb)
  have hb12' : ∀ b ∈ b1 ++ b2, ¬ m2.G b ∧ ¬ m2.H b ∧ b < m2.w.heap.size ∧ Mine w0 b ∧ (∀ i, ¬ blk (ov ++ F) m2 i b) ∧ b ∉ cl := fun b hb => by
    have h2 := hb12 b hb
    have hnew : m1.w.heap.size ≤ b ∨ b ∈ bl := h2.2.2
    have hH : ¬ m1.H b := fun hh => by
      rcases hnew with h | h
      · have := hR1.ok.liveH b hh; omega
      · exact (hout b (List.mem_append_left _ h)).1.2.1 hh
    refine ⟨hG2c b hb, fun hh => hh.elim hH (hG2c b hb), h2.2.1, ?_, fun i hi => ?_, fun hc => ?_⟩
    · rcases hnew with h | h
      · exact .inl (Nat.le_trans hR1.ok.base.size h)
      · exact (hout b (List.mem_append_left _ h)).1.2.2.2
    · have hi : blk (ov ++ F) m1 i b := by
        rw [← blk_le hle hR1.ok.objs]; exact hi
      rcases hnew with h | h
      · have := hblk1 i b hi; omega
      · exact (hout b (List.mem_append_left _ h)).2 i hi
    · rcases hnew with h | h
      · have := (hout b (List.mem_append_right _ hc)).1.2.2.1; omega
      · exact n12.2.2 b h b hc rfl
  have hcl' : ∀ b ∈ cl, ¬ m2.G b ∧ ¬ m2.H b ∧ b < m2.w.heap.size ∧ Mine w0 b ∧ ∀ i, ¬ blk (ov ++ F) m2 i b := fun b hb => by
    obtain ⟨⟨o1, o2, o3, o4⟩, o5⟩ := hout b (List.mem_append_right _ hb)
    have hg : ¬ G2 b := fun hg => (hG2b b hg).1.elim o1 fun h => h.elim (fun h => by omega) fun h => n12.2.2 b h b hb rfl
    refine ⟨hg, fun hh => hh.elim o2 hg, Nat.lt_of_lt_of_le o3 hkept.size, o4, fun i hi => o5 i ?_⟩
    rw [← blk_le hle hR1.ok.objs]; exact hi
  have nn := List.nodup_append.1 hnd2
  have hW : Wait w0 G0 N F (e.next + nmW) m2 ⟨e.slots, ov, e.next⟩ tm ((b2 ++ cl) ++ (b1 ++ [])) := by
    have hmem : ∀ b, b ∈ (b2 ++ cl) ++ (b1 ++ []) → b ∈ b1 ++ b2 ∨ b ∈ cl := fun b hb => by
      simp only [List.mem_append, List.append_nil] at hb ⊢
      rcases hb with (h | h) | h
      · exact .inl (.inr h)
      · exact .inr h
      · exact .inl (.inl h)
    refine ⟨hR2, fun i h1 h2 hd => hfr i h1 h2 (by rw [← hD1]; exact hd), fun i b hb hm => ?_, ?_, fun b hb => ?_⟩
    · rcases hmem b hm with h | h
      · exact (hb12' b h).2.2.2.2.1 i hb
      · exact (hcl' b h).2.2.2.2 i hb
    · rw [List.append_nil]
      refine List.nodup_append.2 ⟨List.nodup_append.2 ⟨nn.2.1, n12.2.1, fun p hp q hq e => ?_⟩, nn.1, fun p hp q hq e => ?_⟩
      · subst e; exact (hb12' p (List.mem_append_right _ hp)).2.2.2.2.2 hq
      · subst e
        rcases List.mem_append.1 hp with hp | hp
        · exact nn.2.2 p hq p hp rfl
        · exact (hb12' p (List.mem_append_left _ hq)).2.2.2.2.2 hp
    · rcases hmem b hb with h | h
      · have := hb12' b h; exact ⟨this.1, this.2.1, this.2.2.1, this.2.2.2.1⟩
      · have := hcl' b h; exact ⟨this.1, this.2.1, this.2.2.1, this.2.2.2.1⟩
  unfold backG at h
  cases hp : putG e.objs ⟨e.slots, ov, e.next⟩ c.args vs (dropN (lenN c.res - nIo c.args) (parts c.res y)) with
  | none => simp [hp] at h
  | some e1 =>
    simp only [hp] at h
    cases hl : Nat.ble (openAll e1 (takeN (lenN c.res - nIo c.args) (parts c.res y))).1.next (e.next + nmW) with
    | false => simp [hl] at h
    | true =>
      simp only [hl] at h
      have hle2 := Nat.le_of_ble_eq_true hl
      have hn1 := openAll_next (takeN (lenN c.res - nIo c.args) (parts c.res y)) e1
      obtain ⟨p1, p2⟩ := putG_next _ _ _ _ _ hp
      have p1 : e.next ≤ e1.next := p1
      obtain ⟨m3, g3, d3, w3⟩ := putG_sound (m0 := m1) c.args vs args _ m2 _ e1 b2 cl (b1 ++ []) houts2 (hvs1.imp fun _ _ hx => Sv.le hle hx) a2 (fun i hi => ⟨hi, rfl⟩) (fun b hb => ⟨hG2a b hb, (hle.G b hb).2⟩) (fun b hb => hsame b (hout b (List.mem_append_right _ hb)).1.2.2.1 fun h => n12.2.2 b h b hb rfl) (fun i hi => by
        obtain ⟨o, ho⟩ := hids i hi
        exact hR.disj i o ho) hp hW (by omega)
      obtain ⟨m4, g4, d4, w4, r4⟩ := openAll_sound (rest := []) _ m3 e1 l b1 (by rw [g3.w, g3.G]; exact hres2) w3 hle2
      refine ⟨asRes l, m4, _, _, rfl, by rw [g4.w, g3.w], ⟨(hl1.trans hle).trans (g3.le.trans g4.le), fun i hi => ?_, by omega, hle2, (openAll_slots _ e1).trans p2⟩, w4.rel, svRes_sv r4, h⟩
      rcases d4 i hi with h | ⟨h1, h2⟩
      · rcases d3 i h with h | ⟨h1, h2⟩
        · exact .inl (by rw [← hD1]; exact h)
        · exact .inr ⟨h1, by omega⟩
      · have : e.next ≤ e1.next := p1
        exact .inr ⟨by omega, h2⟩
theorem callG_sound {f k : Nat} {c : Con} {vs : List SV} {args : List Value} {K : SV → Env → Option ρ} {r : ρ} (hcon : GenCon P w0.o f c) (hR : Rel w0 G0 N F m e tm) (hfr : Fr m e) (hvs : R2 (Sv m) vs args)
    (h : evCallG k nmW c vs e K = some r) : Calls P f args.toArray m.w (Called w0 G0 N F m e tm K r) := by
  unfold evCallG at h
  cases hn : nodupN (ioIds e.objs c.args vs) with
  | false => simp [hn] at h
  | true =>
    simp only [hn] at h
    have hnd := nodupN_nodup _ hn
    cases hc : closedAll c.res with
    | true =>
      simp only [hc] at h
      cases hb : bindG false e.objs (eraseAll (ioIds e.objs c.args vs) e.objs) c.args vs with
      | none => simp [hb] at h
      | some x =>
        simp only [hb] at h
        obtain ⟨y, hy, h⟩ := bnd_some h
        obtain ⟨m1, l1, w1, D1, β1, ν1, hR1, hk, hap⟩ := rel_part hR (ioIds e.objs c.args vs) []
        refine callG_tail (fl := []) (Gd := fun b => m1.G b ∨ ∃ i, blk (eraseAll (ioIds e.objs c.args vs) e.objs ++ F) m1 i b) (Hd := fun b => m1.H b ∨ ∃ i, blk (eraseAll (ioIds e.objs c.args vs) e.objs ++ F) m1 i b) hcon hR hfr hvs hnd hy l1 w1 D1 ν1 hR1 hap
          (st := false) ⟨hk.ho, hk.hov, fun b hb => .inl hb, fun _ i T u n xs b hf hb => .inr ⟨i, blk_left (by
            have hf' : find (eraseAll (ioIds e.objs c.args vs) e.objs) i = some (.row T u n xs) := hf
            unfold blk; rw [hf']; exact hb)⟩, hk.inj⟩ hb (fun b hb => hb) (fun b => Iff.rfl) (.inl hc) h
    | false =>
      simp only [hc] at h
      cases hb : bindG true e.objs (freezeAll (reachAll e.objs vs) (eraseAll (ioIds e.objs c.args vs) e.objs)) c.args vs with
      | none => simp [hb] at h
      | some x =>
        simp only [hb] at h
        obtain ⟨y, hy, h⟩ := bnd_some h
        obtain ⟨m1, l1, w1, D1, β1, ν1, hR1, hk, hap⟩ := rel_part hR (ioIds e.objs c.args vs) (reachAll e.objs vs)
        exact callG_tail (Hd := fun b => m1.H b ∨ ∃ i, blk (freezeAll (reachAll e.objs vs) (eraseAll (ioIds e.objs c.args vs) e.objs) ++ F) m1 i b) hcon hR hfr hvs hnd hy l1 w1 D1 ν1 hR1 hap hk hb (fun b hb => .inl hb) (fun b => Iff.rfl) (.inr rfl) h

theorem call_sound {Δ : List (Nat × Con)} (hΔ : ∀ f c, (f, c) ∈ Δ → (c.gen = false → ConOk P w0.o f c) ∧ Enters' P f ∧ (c.gen = true → GenCon P w0.o f c)) {k f : Nat} {vs : List SV} {args : List Value} {K : SV → Env → Option ρ} {r : ρ} (hR : Rel w0 G0 N F m e tm) (hfr : Fr m e) (hvs : R2 (Sv m) vs args)
    (h : evCall k f vs e K Δ = some r) : Enters' P f ∧ Calls P f args.toArray m.w (Called w0 G0 N F m e tm K r) := by
  induction Δ with
  | nil => simp [evCall] at h
  | cons p Δ ih =>
    obtain ⟨g, c⟩ := p
    have ih := ih fun f c hm => hΔ f c (List.mem_cons_of_mem _ hm)
    simp only [evCall] at h
    cases hg : Nat.beq f g with
    | false => rw [hg] at h; exact ih h
    | true =>
      have := Nat.eq_of_beq_eq_true hg
      subst this
      obtain ⟨hcon, hent, hgen⟩ := hΔ f c List.mem_cons_self
      rw [hg] at h
      simp only at h
      cases hgn : c.gen with
      | true =>
        rw [hgn] at h
        exact ⟨hent, callG_sound (hgen hgn) hR hfr hvs h⟩
      | false =>
      rw [hgn] at h
      simp only at h
      have hcon := hcon hgn
      have hob : ∀ i o, find e.objs i = some o → Ob m i o := fun i o hi => (hR.obj i o hi).2
      cases hfl : flatAll c.res with
      | true =>
        rw [hfl] at h
        simp only at h
        cases hb : bindArgs false e.objs c.args vs with
        | none => rw [hb] at h; exact ih h
        | some x =>
          rw [hb] at h
          obtain ⟨y, hy, hK⟩ := bnd_some h
          refine ⟨hent, Calls.mono (hcon k x y m.w (fun b => b < m.w.heap.size) args hR.ok.base.old (fun _ h => h) hy (bindArgs_sound hob (fun b hb => hR.ok.liveG b hb) hR.ok.liveH (fun i vs hi => (hR.ok.out i _ (blk_left (by unfold blk; rw [hi]))).2.2.1) (fun _ i T u n xs b hi hm => ?_) _ _ _ _ hb hvs)) ?_⟩
          · exact (hR.ok.out i b (blk_left (by unfold blk; rw [hi]; exact hm))).2.2.1
          · intro en w' ⟨l, e1, hbel, hres⟩
            have hle : m.le { m with w := w' } := ⟨fun b hb => ⟨hb, hbel.block b (hR.ok.liveG b hb)⟩, fun b hb => ⟨hb, hbel.block b (hR.ok.liveH b hb)⟩, fun _ h => h, fun _ _ => rfl, fun _ _ => rfl, fun _ _ => rfl, fun _ _ => rfl⟩
            refine ⟨asRes l, { m with w := w' }, e, _, e1, rfl, .same hle rfl rfl, hR.world hle (hR.ok.world hle (hR.ok.base.trans hbel) (fun i b hb => hbel.block b (hR.ok.out i b hb).2.2.1) (fun b hb => ⟨.inl hb, ?_⟩) (fun b hb => ⟨.inl hb, ?_⟩) hbel.size hR.ok.gh), Ress.sv (Ress.flat hfl hres), hK⟩
            · exact Nat.lt_of_lt_of_le (hR.ok.liveG b hb) hbel.size
            · exact Nat.lt_of_lt_of_le (hR.ok.liveH b hb) hbel.size
      | false =>
        rw [hfl] at h
        simp only at h
        cases hb : bindArgs true (e.freeze (reachAll e.objs vs)).objs c.args vs with
        | none => rw [hb] at h; exact ih h
        | some x =>
          rw [hb] at h
          obtain ⟨y, hy, hK⟩ := bnd_some h
          obtain ⟨m1, l1, hw1, hD1, hR1⟩ := hR.freeze (reachAll e.objs vs)
          have hvs1 : R2 (Sv m1) vs args := hvs.imp fun _ _ hx => Sv.le l1 hx
          have hnx : (e.freeze (reachAll e.objs vs)).next = e.next := rfl
          have hsl : (e.freeze (reachAll e.objs vs)).slots = e.slots := rfl
          generalize e.freeze (reachAll e.objs vs) = e1 at hb hK hR1 hnx hsl
          have hob1 : ∀ i o, find e1.objs i = some o → Ob m1 i o := fun i o hi => (hR1.obj i o hi).2
          rw [← hw1]
          refine ⟨hent, Calls.mono (hcon k x y m1.w m1.G args hR1.ok.base.old hR1.ok.liveG hy (bindArgs_sound hob1 (fun b hb => hb) hR1.ok.liveH (fun i vs hi => (hR1.ok.out i _ (blk_left (by unfold blk; rw [hi]))).2.2.1) (fun h => by simp at h) _ _ _ _ hb hvs1)) ?_⟩
          intro en w' ⟨l, e2, hbel, hres⟩
          let m2 : St := { m1 with w := w', G := grown m1.G m1.w w', H := grown m1.H m1.w w' }
          have hle : m1.le m2 := ⟨fun b hb => ⟨.inl hb, hbel.block b (hR1.ok.liveG b hb)⟩, fun b hb => ⟨.inl hb, hbel.block b (hR1.ok.liveH b hb)⟩, fun _ h => h, fun _ _ => rfl, fun _ _ => rfl, fun _ _ => rfl, fun _ _ => rfl⟩
          have gr : ∀ {A : Nat → Prop}, (∀ b, A b → b < m1.w.heap.size) → ∀ b, grown A m1.w w' b → (A b ∨ m1.w.heap.size ≤ b) ∧ b < w'.heap.size := by
            intro A hA b hb
            rcases hb with hb | ⟨h1, h2⟩
            · exact ⟨.inl hb, Nat.lt_of_lt_of_le (hA b hb) hbel.size⟩
            · exact ⟨.inr h1, h2⟩
          exact ⟨asRes l, m2, e1, _, e2, rfl, .same (l1.trans hle) hD1 hnx hsl, hR1.world hle (hR1.ok.world hle (hR1.ok.base.trans hbel) (fun i b hb => hbel.block b (hR1.ok.out i b hb).2.2.1) (gr hR1.ok.liveG) (gr hR1.ok.liveH) hbel.size fun b hb => hb.imp (hR1.ok.gh b) id), Ress.sv hres, hK⟩
end
end Go.Ev
end

section
/- A row of the frame's own is sorted in place. -/
set_option linter.unusedSimpArgs false
set_option linter.unusedVariables false
set_option linter.unusedSectionVars false
namespace Go.Ev
open Go.RowKit (Below)
open Go.Sort (HoldsK putRowK flatK get_flatK size_flatK)
open Go.Proofs (LessB SWB)

theorem sortAt_mem {f T : Nat} : ∀ {Δ : List (Nat × Con)}, sortAt f T Δ = true → ∃ c, (f, c) ∈ Δ ∧ ∃ Ts, c.args = [.srt Ts] ∧ memT Ts T = true
  | [], h => by simp [sortAt] at h
  | (g, c) :: r, h => by
    simp only [sortAt] at h
    cases hg : Nat.beq f g with
    | false =>
      rw [hg] at h
      obtain ⟨c', h1, h2⟩ := sortAt_mem h
      exact ⟨c', List.mem_cons_of_mem _ h1, h2⟩
    | true =>
      have := Nat.eq_of_beq_eq_true hg
      subst this
      rw [hg] at h
      simp only at h
      split at h
      · rename_i Ts hc
        exact ⟨c, List.mem_cons_self, Ts, hc, h⟩
      · cases h

section
variable {P : Program} {w0 : Base} {G0 : Nat → Prop} {N : Nat} {F : List (Nat × Obj)} {m : St} {e : Env} {tm : Array Value} {Γ : Tab} {ρ : Type}

/-- A row of the frame's own holds something else; the heap may have grown. -/
theorem Rel.sorted (hR : Rel w0 G0 N F m e tm) {id U q : Nat} {t : Ty} (ht : t.noOwn = true) {xs ys : List t.den} (ho : find e.objs id = some (.row U t q xs)) {w' : World} (h1 : w'.os = m.w.os) (h2 : w'.tape = m.w.tape) (h3 : w'.output = m.w.output) (h4 : m.w.heap.size ≤ w'.heap.size)
    (h5 : ∀ b, b < m.w.heap.size → (m.ν id).ownBlock ≠ some b → w'.heap[b]? = m.w.heap[b]?) (h6 : RowAt w' m.G U t ys (m.ν id)) : m.le { m with w := w' } ∧ Rel w0 G0 N F { m with w := w' } (e.setObj id (.row U t q ys)) tm := by
  obtain ⟨_, g1, g2, _, g4⟩ := (hR.obj id _ ho).2
  have hσ : m.σ q = (m.ν id).ownBlock.toList := g1.is_own ht
  have hbk : ∀ b, (m.ν id).ownBlock = some b → blk (e.objs ++ F) m id b := fun b hb => blk_left (by unfold blk; rw [ho]; simp only [hσ, hb]; simp)
  have hle : m.le { m with w := w' } := ⟨fun b hb => ⟨hb, h5 b (hR.ok.liveG b hb) fun hh => (hR.ok.out id b (hbk b hh)).1 hb⟩, fun b hb => ⟨hb, h5 b (hR.ok.liveH b hb) fun hh => (hR.ok.out id b (hbk b hh)).2.1 hb⟩, fun _ h => h, fun _ _ => rfl, fun _ _ => rfl, fun _ _ => rfl, fun _ _ => rfl⟩
  have hbase : Kept w0 w' := by
    have hb := hR.ok.base
    have hnew : ∀ k, (m.ν id).ownBlock = some k → Mine w0 k := fun k hh => (hR.ok.out id k (hbk k hh)).2.2.2
    refine ⟨h1.trans hb.os, h2.trans hb.tape, h3.trans hb.output, Nat.le_trans hb.size h4, fun k hk hm => ?_, ⟨h1.trans hb.old.os, h2.trans hb.old.tape, h3.trans hb.old.output, Nat.le_trans hb.old.size h4, fun k hk => ?_⟩, hb.oldM, hb.oldS⟩
    · rw [h5 k (Nat.lt_of_lt_of_le hk hb.size) fun hh => (hnew k hh).elim (fun h => by omega) hm]
      exact hb.block k hk hm
    · rw [h5 k (Nat.lt_of_lt_of_le hk hb.old.size) fun hh => (hnew k hh).elim (fun h => by have := hb.oldS; omega) fun h => by have := hb.oldM k h; omega]
      exact hb.old.block k hk
  have hfind : find (e.objs ++ F) id = some (.row U t q xs) := find_left ho
  have hold : ∀ j, j ≠ id → blk (upd (e.objs ++ F) id (.row U t q ys)) { m with w := w' } j = blk (e.objs ++ F) m j := fun j hj => by
    unfold blk
    rw [find_upd, if_neg (fun e => hj e.symm)]
  have hsame : blk (upd (e.objs ++ F) id (.row U t q ys)) { m with w := w' } id = blk (e.objs ++ F) m id := by
    unfold blk
    rw [find_upd, if_pos rfl, hfind]
    rfl
  have hall : ∀ j, blk (upd (e.objs ++ F) id (.row U t q ys)) { m with w := w' } j = blk (e.objs ++ F) m j := fun j => by
    by_cases hj : j = id
    · subst hj; exact hsame
    · exact hold j hj
  refine ⟨hle, hR.objs hle _ _ (ObjsOk.congr (os := upd (e.objs ++ F) id (.row U t q ys)) ?_ (upd_left _ ho)) (fun i o hf => ?_)⟩
  · refine ⟨hbase, fun j p hf => ?_, fun j k b g1 g2 => hR.ok.inj j k b (by rw [← hall]; exact g1) (by rw [← hall]; exact g2), fun j b g1 => ?_, fun b hg => Nat.lt_of_lt_of_le (hR.ok.liveG b hg) h4, fun b hg => Nat.lt_of_lt_of_le (hR.ok.liveH b hg) h4, hR.ok.subG, hR.ok.gh⟩
    · rw [find_upd] at hf
      by_cases hj : id = j
      · subst hj
        rw [if_pos rfl, hfind] at hf
        simp only [Option.map_some, Option.some.injEq] at hf
        subst hf
        exact ⟨(hR.ok.objs _ _ hfind).1, h6, by show RowIn w' m.G t ys (m.ν id) (m.σ q); rw [hσ]; exact h6.inn ht, g2, HdOk.none ht, g4⟩
      · rw [if_neg hj] at hf
        have hD := hR.ok.objs j p hf
        refine ⟨hD.1, Ob.le hle hD.1 hD.2 (e.objs ++ F) hf fun b hh => h5 b (hR.ok.out j b hh).2.2.1 fun hn => hj (hR.ok.inj _ _ b (hbk b hn) hh)⟩
    · rw [hall] at g1
      obtain ⟨a1, a2, a3, a4⟩ := hR.ok.out j b g1
      exact ⟨a1, a2, Nat.lt_of_lt_of_le a3 h4, a4⟩
  · rw [find_upd] at hf
    by_cases hi : id = i
    · subst hi; exact hR.disj _ _ ho
    · rw [if_neg hi] at hf; exact hR.disj _ _ hf

theorem notGen {c : Con} {os : List (Nat × Obj)} {st : Bool} {vs : List SV} {x : ATs.den c.args} (hf : flatAll c.res = true) (hb : bindArgs st os c.args vs = some x) : c.gen = false := by
  have h1 : ∀ (ats : List AT) (vs : List SV) (x : ATs.den ats), bindArgs st os ats vs = some x → hasIo ats = false := by
    intro ats
    induction ats with
    | nil => intro _ _ _; rfl
    | cons a r ih =>
      intro vs x h
      cases vs with
      | nil => simp [bindArgs] at h
      | cons v vs =>
        simp only [bindArgs] at h
        cases hx : bindArg st os a v with
        | none => simp [hx] at h
        | some y =>
          cases hy : bindArgs st os r vs with
          | none => simp [hx, hy] at h
          | some z =>
            have := ih vs z hy
            cases a with
            | var t => simp [bindArg] at hx
            | io t => simp [bindArg] at hx
            | own t => simp [bindArg] at hx
            | _ => exact this
  have h2 : ∀ ts : List Ty, flatAll ts = true → noOwnAll ts = true := by
    have h3 : ∀ t : Ty, t.flat = true → t.noOwn = true := by
      intro t
      induction t with
      | pair a b iha ihb => intro h; simp only [Ty.flat, Bool.and_eq_true] at h; simp only [Ty.noOwn, Bool.and_eq_true]; exact ⟨iha h.1, ihb h.2⟩
      | osl T t => intro h; simp [Ty.flat] at h
      | _ => intro _; rfl
    intro ts
    induction ts with
    | nil => intro _; rfl
    | cons t r ih => intro h; simp only [flatAll, Bool.and_eq_true] at h; simp only [noOwnAll, Bool.and_eq_true]; exact ⟨h3 t h.1, ih h.2⟩
  unfold Con.gen
  rw [h1 _ _ _ hb, h2 _ hf]
  rfl
/-- the closure's answer, in a state -/
theorem evLess_sound {Δ : List (Nat × Con)} (hΔ : DelOk P w0.o Δ) {k h : Nat} {cs : List Cap} {cv : List Value} {i j : Int} {z : Bool} (hR : Rel w0 G0 N F m e tm) (hc : R2 (Cp m) cs cv) (hl : evLess k h cs e.objs i j Δ = some z) :
    Enters' P h ∧ Calls P h (#[.int .i64 i, .int .i64 j] ++ cv.toArray) m.w fun en w' => en = .returned (.bool z) ∧ Below m.w.heap.size m.w w' := by
  induction Δ with
  | nil => simp [evLess] at hl
  | cons p Δ ih =>
    obtain ⟨g, c⟩ := p
    have ih := ih fun f c hm => hΔ f c (List.mem_cons_of_mem _ hm)
    simp only [evLess] at hl
    cases hg : Nat.beq h g with
    | false => rw [hg] at hl; exact ih hl
    | true =>
      have := Nat.eq_of_beq_eq_true hg
      subst this
      obtain ⟨hcon0, hent, _⟩ := hΔ h c List.mem_cons_self
      rw [hg] at hl
      simp only at hl
      cases hfl : flatAll c.res with
      | false => rw [hfl] at hl; simp at hl
      | true =>
        rw [hfl] at hl
        simp only at hl
        cases hb : bindArgs false e.objs c.args (.one (.i .i64 i) :: .one (.i .i64 j) :: cs.map capSV) with
        | none => rw [hb] at hl; simp at hl
        | some x =>
          rw [hb] at hl
          obtain ⟨y, hy, hK⟩ := bnd_some hl
          have hcon := hcon0 (notGen hfl hb)
          have hvs : R2 (Sv m) (.one (.i .i64 i) :: .one (.i .i64 j) :: cs.map capSV) (.int .i64 i :: .int .i64 j :: cv) := by
            refine ⟨rfl, rfl, ?_⟩
            have key : ∀ (cs : List Cap) (l : List Value), R2 (Cp m) cs l → R2 (Sv m) (cs.map capSV) l := by
              intro cs
              induction cs with
              | nil => intro l hl; cases l with
                | nil => trivial
                | cons => exact absurd hl (by simp [R2])
              | cons c cs ih => intro l hl; cases l with
                | nil => exact absurd hl (by simp [R2])
                | cons v l =>
                  refine ⟨?_, ih l hl.2⟩
                  have h1 := hl.1
                  cases c with
                  | loc id => exact h1
                  | el t x =>
                    obtain ⟨b, o, cs', e, h⟩ := h1
                    exact ⟨b, o, cs', by simpa using e, h⟩
            exact key cs cv hc
          have hob : ∀ i o, find e.objs i = some o → Ob m i o := fun i o hi => (hR.obj i o hi).2
          have harg := bindArgs_sound (Gd := fun b => b < m.w.heap.size) hob (fun b hb => hR.ok.liveG b hb) hR.ok.liveH (fun i vs hi => (hR.ok.out i _ (blk_left (by unfold blk; rw [hi]))).2.2.1) (fun _ i T u n xs b hi hm => (hR.ok.out i b (blk_left (by unfold blk; rw [hi]; exact hm))).2.2.1) _ _ _ _ hb hvs
          have hcall := hcon k x y m.w (fun b => b < m.w.heap.size) _ hR.ok.base.old (fun _ h => h) hy harg
          refine ⟨hent, ?_⟩
          have e1 : (#[.int .i64 i, .int .i64 j] ++ cv.toArray : Array Value) = (Value.int .i64 i :: .int .i64 j :: cv).toArray := by simp
          rw [e1]
          refine Calls.mono hcall ?_
          rintro en w' ⟨l, e2, hbel, hres⟩
          refine ⟨?_, hbel⟩
          have hsv := Ress.sv (m := { m with w := w', G := grown (fun b => b < m.w.heap.size) m.w w' }) (Ress.flat (w' := w') (G' := grown (fun b => b < m.w.heap.size) m.w w') hfl hres)
          unfold asBoolV at hK
          split at hK
          · rename_i q hq
            rw [hq] at hsv
            have hb' : asRes l = .bool q := hsv
            rw [e2, hb']
            simp only [Option.some.injEq] at hK
            rw [hK]
          · cases hK

theorem swb_rowAt {α : Type} [Inhabited α] {enc : α → List Value} {k : Nat} (hk : ∀ x, (enc x).length = k) {w W : World} {b U : Nat} {d0 dk : Array α} {cur : List Value} (hh : w.heap[b]? = some (.cells cur.toArray U (0, 0))) (hH : HoldsK enc k w b 0 d0) (hs : dk.size = d0.size) (h : SWB enc k w b 0 dk W) :
    (∃ cur' : List Value, W.heap[b]? = some (.cells cur'.toArray U (0, 0)) ∧ cur'.length = cur.length) ∧ ∀ j, j < dk.size → CellsAt W b (j * k) (enc dk[j]!) := by
  have hb : b < w.heap.size := heap_lt hh
  constructor
  · have := Below.block h b hb
    refine ⟨(Go.Sort.putCells id 0 (flatK enc k dk) cur.toArray).toList, ?_, by simp [Go.Sort.putCells]⟩
    rw [this]
    simp only [putRowK, Go.Sort.putRow, Go.Sort.mapBlock, Array.getElem?_modify, hh, if_true, Option.map_some, Go.Sort.onCells, Array.toArray_toList]
  · intro j hj q v hq
    have hq' : q < k := by rw [← hk dk[j]!]; exact (List.getElem?_eq_some_iff.1 hq).1
    have := (HoldsK.cell (SWB.holds h hb hH hs) hj hq').1
    rw [Nat.zero_add] at this
    rw [this]
    congr 1
    rw [List.getElem!_eq_getElem?_getD, hq]; rfl

theorem sort_sound {Δ : List (Nat × Con)} (hΓ : TabOk P Γ) (hΔ : DelOk P w0.o Δ) (hR : Rel w0 G0 N F m e tm) {k f T id h : Nat} {cs : List Cap} {args : List Value} {K : SV → Env → Option ρ} {r : ρ} (hvs : R2 (Sv m) [.one (.ifc T id), .one (.clo h cs)] args) (hh : evSort Γ Δ k f T id h cs e K = some r) :
    Enters' P f ∧ Calls P f args.toArray m.w fun en w' => ∃ v m' e' s, en = .returned v ∧ m'.w = w' ∧ Stp m e m' e' ∧ Rel w0 G0 N F m' e' tm ∧ Sv m' s v ∧ K s e' = some r := by
  obtain ⟨a1, a2, rfl⟩ : ∃ a1 a2, args = [a1, a2] := by
    match args, hvs with
    | [a1, a2], _ => exact ⟨a1, a2, rfl⟩
  obtain ⟨⟨hid, e1, -⟩, ⟨cv, e2, hc⟩, -⟩ := hvs
  subst e1; subst e2
  unfold evSort at hh
  cases hsa : sortAt f T Δ with
  | false => rw [hsa] at hh; simp at hh
  | true =>
    obtain ⟨c, hmem, Ts, hargs, hmt⟩ := sortAt_mem hsa
    obtain ⟨-, hent, hsrt, -⟩ := hΔ f c hmem
    unfold SrtCon at hsrt
    rw [hargs] at hsrt
    have hst : StableOk P f T := hsrt T hmt
    refine ⟨hent, ?_⟩
    rw [hsa] at hh
    cases hf : find Γ T with
    | none => rw [hf] at hh; simp at hh
    | some ti =>
      rw [hf] at hh
      cases ho : e.obj id with
      | none => rw [ho] at hh; simp at hh
      | some o =>
        cases o with
        | row U t q xs =>
          rw [ho] at hh
          simp only at hh
          cases hty : isSl ti.ty t && t.noOwn with
          | false => rw [hty] at hh; simp at hh
          | true =>
            rw [hty] at hh
            simp only at hh
            obtain ⟨hcap, hh⟩ := chk_dec hh
            obtain ⟨ys, hys, hK⟩ := bnd_some hh
            have hty2 := Bool.and_eq_true_iff.1 hty
            have ht := hty2.2
            have ho' : find e.objs id = some (.row U t q xs) := ho
            have hrow : RowAt m.w m.G U t xs (m.ν id) := (hR.obj id _ ho').2.1
            have hbk : ∀ b, (m.ν id).ownBlock = some b → blk (e.objs ++ F) m id b := fun b hb => blk_left (by
              unfold blk
              rw [ho']
              simp only [((hR.obj id _ ho').2.2.1).is_own ht, hb]
              simp)
            obtain ⟨hu, hpos, tj, hj, htj, i, z, zs, hi, hsz, -⟩ := elem_info hΓ hf (isSl_of hty2.1)
            by_cases hsm : xs.length ≤ 1
            · rw [srt_small hsm] at hys
              obtain rfl := Option.some.inj hys
              have key : ∃ A n c, m.ν id = .slice A n c ∧ n ≤ 1 := by
                rcases hrow with ⟨g, _⟩ | ⟨b, c, cur, g, _⟩
                · exact ⟨_, _, _, g, by omega⟩
                · exact ⟨_, _, _, g, hsm⟩
              obtain ⟨A, n, c, hν, hn⟩ := key
              have := hst.tiny A n c hn (.func h) #[] cv.toArray m.w
              rw [← hν] at this
              refine Calls.mono this ?_
              rintro en w' ⟨rfl, hbel⟩
              have hr' : RowAt w' m.G U t xs (m.ν id) := RowAt.mono (fun b hb => ⟨hb, hbel.block b (hR.ok.liveG b hb)⟩) hrow fun a n c hs => hbel.block _ (hR.ok.out id a.block (hbk _ (by rw [hs]; rfl))).2.2.1
              obtain ⟨g1, g2⟩ := hR.sorted ht ho' hbel.os hbel.tape hbel.output hbel.size (fun b hb _ => hbel.block b hb) hr'
              exact ⟨_, { m with w := w' }, e.setObj id (.row U t q xs), .tup [], rfl, rfl, .same g1 rfl rfl, g2, ⟨[], rfl, trivial⟩, hK⟩
            · obtain ⟨lt, ⟨hlt, hspec⟩, rfl⟩ := srt_some hys hsm
              rcases hrow with ⟨_, g⟩ | ⟨b, cp, cur, hν, hhp, hc1, hc2, hc3, hx⟩
              · subst g; simp at hsm
              · -- the elements' own cells
                have hx' : ∀ j : Fin xs.length, ∃ cs', CellsAt m.w b (j.1 * t.size) cs' ∧ Val m.w m.G t (xs.getD j.1 t.zero) cs' := fun j => hx j.1 j.2
                obtain ⟨cj, hcj⟩ : ∃ cj : Fin xs.length → List Value, ∀ j, CellsAt m.w b (j.1 * t.size) (cj j) ∧ Val m.w m.G t (xs.getD j.1 t.zero) (cj j) := ⟨fun j => Classical.choose (hx' j), fun j => Classical.choose_spec (hx' j)⟩
                haveI : Inhabited (Fin xs.length) := ⟨⟨0, by omega⟩⟩
                let d : Array (Fin xs.length) := (List.finRange xs.length).toArray
                have hds : d.size = xs.length := by simp [d]
                have hdg : ∀ j (hj : j < xs.length), d[j]! = ⟨j, hj⟩ := fun j hj => by
                  rw [getElem!_pos d j (by rw [hds]; exact hj)]; simp [d]
                have hklen : ∀ x, (cj x).length = t.size := fun x => (hcj x).2.length
                have hH : HoldsK cj t.size m.w b 0 d := by
                  intro q hq
                  rw [size_flatK, hds] at hq
                  have hq1 : q / t.size < xs.length := Nat.div_lt_of_lt_mul (by rw [Nat.mul_comm]; exact hq)
                  have hq2 : q % t.size < t.size := Nat.mod_lt _ hpos
                  constructor
                  · rw [show _root_.id (flatK cj t.size d)[q]! = (flatK cj t.size d)[q]! from rfl, get_flatK _ _ _ _ (by rw [hds]; exact hq), hdg _ hq1]
                    have := (hcj ⟨q / t.size, hq1⟩).1 (q % t.size) ((cj ⟨q / t.size, hq1⟩)[q % t.size]!) (by
                      rw [List.getElem!_eq_getElem?_getD, List.getElem?_eq_getElem (by rw [hklen]; exact hq2)]; rfl)
                    rw [← this]
                    congr 2
                    show 0 + q = q / t.size * t.size + q % t.size
                    rw [Nat.mul_comm, Nat.div_add_mod]; omega
                  · simp [World.frozen?, hhp]
                have hbl : b < m.w.heap.size := heap_lt hhp
                -- an order of the elements, in a world that has grown
                have world : ∀ (dk : Array (Fin xs.length)) (W : World), SWB cj t.size m.w b 0 dk W → dk.size = xs.length → m.le { m with w := W } ∧ Rel w0 G0 N F { m with w := W } (e.setObj id (.row U t q (dk.toList.map fun q => xs.getD q.1 t.zero))) tm := by
                  intro dk W hS hds2
                  obtain ⟨⟨cur', g1, g2⟩, g3⟩ := swb_rowAt hklen hhp hH (hds2.trans hds.symm) hS
                  have hother : ∀ b', b' < m.w.heap.size → b' ≠ b → W.heap[b']? = m.w.heap[b']? := fun b' hb' hne => by
                    rw [Below.block hS b' hb']
                    simp only [putRowK, Go.Sort.putRow, Go.Sort.mapBlock, Array.getElem?_modify, if_neg (Ne.symm hne)]
                  have hown : (m.ν id).ownBlock = some b := by rw [hν]; rfl
                  have hGb : ∀ b', m.G b' → m.G b' ∧ W.heap[b']? = m.w.heap[b']? := fun b' hg => ⟨hg, hother b' (hR.ok.liveG b' hg) fun e => (hR.ok.out id b (hbk b hown)).1 (e ▸ hg)⟩
                  have hos : W.os = m.w.os := by have := Below.os hS; exact this
                  have htp : W.tape = m.w.tape := by have := Below.tape hS; exact this
                  have hou : W.output = m.w.output := by have := Below.output hS; exact this
                  refine hR.sorted ht ho' hos htp hou (SWB.le hS) (fun b' hb' hne => hother b' hb' fun e => hne (by rw [hown, e])) ?_
                  refine .inr ⟨b, cp, cur', by rw [hν]; simp [hds2], g1, by simpa [hds2] using hc1, hc2, by rw [g2]; exact hc3, fun j hj => ?_⟩
                  have hj' : j < dk.size := by simpa using hj
                  refine ⟨cj dk[j]!, g3 j hj', ?_⟩
                  have : (dk.toList.map fun q => xs.getD q.1 t.zero).getD j t.zero = xs.getD dk[j]!.1 t.zero := by
                    rw [getElem!_pos dk j hj']
                    simp [List.getD_eq_getElem?_getD, hj']
                  rw [this]
                  exact Val.mono hGb _ _ _ (hcj _).2
                obtain ⟨U', ie, hU1, hU2, hrun⟩ := hst.many
                have e3 : U' = ti.elem := by
                  rw [hu] at hU1
                  simpa using hU1.symm
                subst e3
                have e4 : ie.size = t.size := by
                  rw [hi] at hU2
                  obtain rfl := Option.some.inj hU2
                  exact hsz
                rw [e4] at hrun
                have hless : LessB P h cv.toArray cj t.size (fun p q => lt (xs.getD p.1 t.zero) (xs.getD q.1 t.zero)) b 0 d.size m.w := by
                  intro W dk hS hds2 i j hi hj
                  rw [hds] at hds2 hi hj
                  obtain ⟨gle, gR⟩ := world dk W hS hds2
                  have hmap : ∀ q, q < xs.length → (dk.toList.map fun q => xs.getD q.1 t.zero).getD q t.zero = xs.getD dk[q]!.1 t.zero := fun q hq => by
                    rw [getElem!_pos dk q (by omega)]
                    simp [List.getD_eq_getElem?_getD, show q < dk.size by omega]
                  have hsp := hspec (dk.toList.map fun q => xs.getD q.1 t.zero) (by simp [hds2]) (fun y hy => by
                    obtain ⟨q, _, rfl⟩ := List.mem_map.1 hy
                    rw [List.getD_eq_getElem?_getD, List.getElem?_eq_getElem q.2]
                    exact List.getElem_mem q.2) i j hi hj
                  rw [hmap i hi, hmap j hj] at hsp
                  exact (evLess_sound hΔ gR (hc.imp fun _ _ hx => Cp.le gle hx) hsp).2
                have hcl := by
                  have hentH : Enters' P h := by
                    have hsp := hspec xs rfl (fun y hy => hy) 0 0 (by omega) (by omega)
                    have hz := world d m.w (SWB.start hH) hds
                    have hxs : (d.toList.map fun q => xs.getD q.1 t.zero) = xs := by
                      apply List.ext_getElem (by simp [d])
                      intro q h1 h2
                      simp [d, List.getD_eq_getElem?_getD, h2]
                    rw [hxs] at hz
                    exact (evLess_sound hΔ hz.2 (hc.imp fun _ _ hx => Cp.le hz.1 hx) hsp).1
                  exact hrun cj hklen (fun x => Val.oneCells (m := m) (hcj x).2) _ (hlt.on fun p : Fin xs.length => xs.getD p.1 t.zero) h cv.toArray hentH b 0 cp d (by omega) (by rw [hds]; unfold capN at hcap; omega) m.w hless hH hbl
                rw [hds, ← hν] at hcl
                refine Calls.mono hcl ?_
                rintro en w' ⟨rfl, hS⟩
                have hlen : (stab (fun p q : Fin xs.length => lt (xs.getD p.1 t.zero) (xs.getD q.1 t.zero)) d.toList).toArray.size = xs.length := by
                  simp [stab_length, d]
                obtain ⟨g1, g2⟩ := world _ w' hS hlen
                have hxs : (d.toList.map fun q => xs.getD q.1 t.zero) = xs := by
                  apply List.ext_getElem (by simp [d])
                  intro q h1 h2
                  simp [d, List.getD_eq_getElem?_getD, h2]
                have hfin : ((stab (fun p q : Fin xs.length => lt (xs.getD p.1 t.zero) (xs.getD q.1 t.zero)) d.toList).toArray.toList.map fun q => xs.getD q.1 t.zero) = stab lt xs := by
                  have := stab_map (lt := lt) (fun q : Fin xs.length => xs.getD q.1 t.zero) d.toList
                  rw [hxs] at this
                  exact this
                rw [hfin] at g2
                exact ⟨_, { m with w := w' }, e.setObj id (.row U t q (stab lt xs)), .tup [], rfl, rfl, .same g1 rfl rfl, g2, ⟨[], rfl, trivial⟩, hK⟩
        | _ => rw [ho] at hh; simp at hh
end
end Go.Ev
end

section
/- One operation. -/
set_option linter.unusedSimpArgs false
set_option linter.unusedVariables false
namespace Go.Ev
open Go.RowKit (Below)

section
variable {P : Program} {w0 : Base} {G0 : Nat → Prop} {N : Nat} {F : List (Nat × Obj)} {m : St} {e : Env} {a : Act} {Γ : Tab} {Δ : List (Nat × Con)} {k : Nat} {ρ : Type}

theorem undef_sv : Sv m (.tup []) undef := ⟨[], rfl, trivial⟩
theorem run_v {s : Sem Value} {w w' : World} {v : Value} (h : s.run P w = .ok v w') : (do pure (Next.value (← s)) : Sem Next).run P w = .ok (.value v) w' := by
  simp only [Sem.run_bind, h, Result.andThen_ok, Sem.run_pure]
theorem run_u {s : Sem Unit} {w w' : World} (h : s.run P w = .ok () w') : (do s; pure Next.skip : Sem Next).run P w = .ok .skip w' := by
  simp only [Sem.run_bind, h, Result.andThen_ok, Sem.run_pure]

theorem valAll_sv (hR : Rel w0 G0 N F m e a.tmps) : ∀ (l : List Operand) (vs : List SV), valAll e l = some vs → R2 (Sv m) vs (l.map a.eval)
  | [], vs, h => by simp only [valAll, Option.some.injEq] at h; subst h; trivial
  | o :: r, vs, h => by
    simp only [valAll] at h
    cases ho : e.val o with
    | none => simp [ho] at h
    | some v =>
      cases hr : valAll e r with
      | none => simp [ho, hr] at h
      | some l =>
        simp only [ho, hr, Option.some.injEq] at h
        subst h
        exact ⟨val_sv hR ho, valAll_sv hR r l hr⟩
theorem caps_sv : ∀ (cs : List Cap) (l : List Value), R2 (Cp m) cs l → R2 (Sv m) (cs.map capSV) l
  | [], [], _ => trivial
  | c :: cs, v :: l, ⟨h1, h2⟩ => by
    refine ⟨?_, caps_sv cs l h2⟩
    cases c with
    | loc id => exact h1
    | el t x =>
      obtain ⟨b, o, cs', e, h⟩ := h1
      exact ⟨b, o, cs', by simpa using e, h⟩
  | [], _ :: _, h => by simp [R2] at h
  | _ :: _, [], h => by simp [R2] at h

/-- What is known behind a step. -/
def Onw (w0 : Base) (G0 : Nat → Prop) (N : Nat) (F : List (Nat × Obj)) (m : St) (e : Env) (tm : Array Value) (rd : Bool) {ρ : Type} (K : SV → Env → Option ρ) (r : ρ) (m' : St) (e' : Env) (s : SV) (v : Value) : Prop :=
  Stp m e m' e' ∧ (rd = true → ∀ i, i ≠ e.next → find e'.objs i = find e.objs i) ∧ Rel w0 G0 N F m' e' tm ∧ Sv m' s v ∧ K s e' = some r

theorem builtin_sound (hΓ : TabOk P Γ) (hR : Rel w0 G0 N F m e a.tmps) (hfr : ¬ m.D e.next) {b : Builtin} {ts : Array TypeId} {type : TypeId} {consts : Array Bool} {vs : List SV} {args : List Value} {K : SV → Env → Option ρ} {r : ρ} (hvs : R2 (Sv m) vs args)
    (ats : Array Operand) (h : evBuiltin Γ b (nilFirst ats.toList) ts.toList vs e K = some r) (us : Array TypeId) : ∃ m' e' s v, (builtin b ts type consts args.toArray).run P m.w = .ok (.value v) m'.w ∧ Onw w0 G0 N F m e a.tmps (reads (.call ⟨.builtin b, ats, us⟩)) K r m' e' s v := by
  have same : ∀ i, i ≠ e.next → find e.objs i = find e.objs i := fun _ _ => rfl
  unfold evBuiltin at h
  split at h
  · rename_i v
    cases args with
    | nil => exact absurd hvs (by simp [R2])
    | cons u l =>
      cases l with
      | cons => exact absurd hvs.2 (by simp [R2])
      | nil =>
        cases hts : ts.toList with
        | nil => simp [hts] at h
        | cons T tl =>
          simp only [hts] at h
          cases hf : find Γ T with
          | none => simp [hf] at h
          | some ti =>
            simp only [hf] at h
            cases hl : lenOf e ti.ty v with
            | none => simp [hl] at h
            | some n =>
              simp only [hl] at h
              have hT : ts[0]? = some T := by rw [← Array.getElem?_toList, hts]; rfl
              exact ⟨m, e, .one (.i .i64 n), _, run_v (len_sound hΓ hR hf hl hvs.1 ts hT type), .refl m e, fun _ => same, hR, rfl, h⟩
  · rename_i s x
    cases args with
    | nil => exact absurd hvs (by simp [R2])
    | cons u l =>
      cases l with
      | nil => exact absurd hvs.2 (by simp [R2])
      | cons u2 l =>
        cases l with
        | cons => exact absurd hvs.2.2 (by simp [R2])
        | nil =>
          split at h
          · rename_i T U hts
            cases hTU : Nat.beq T U with
            | false => simp [hTU] at h
            | true =>
              simp only [hTU] at h
              have := Nat.eq_of_beq_eq_true hTU
              subst this
              have hts' : ts = #[T, T] := by
                apply Array.ext'
                rw [hts]
              subst hts'
              cases hkd : nilFirst ats.toList with
              | false =>
                simp only [hkd] at h
                obtain ⟨m', e', s', v', g1, g2, g3, g4, g5⟩ := evAppend_sound (P := P) (ty := type) hΓ hR h hvs.1 hvs.2.1 hfr
                exact ⟨m', e', s', v', run_v g1, g2, fun hr => by simp [reads, hkd] at hr, g3, g4, g5⟩
              | true =>
                simp only [hkd] at h
                split at h
                · obtain ⟨m', e', s', v', g1, g2, gk, g3, g4, g5⟩ := evAppendN_sound (P := P) (ty := type) hΓ hR h hvs.2.1 hfr
                  have h0 := hvs.1
                  simp only [Sv, Lv] at h0
                  rw [h0]
                  exact ⟨m', e', s', v', run_v g1, g2, fun _ => gk, g3, g4, g5⟩
                · cases h
          · simp at h
  · rename_i kk x j y
    cases args with
    | nil => exact absurd hvs (by simp [R2])
    | cons u l =>
      cases l with
      | nil => exact absurd hvs.2 (by simp [R2])
      | cons u2 l =>
        cases l with
        | cons => exact absurd hvs.2.2 (by simp [R2])
        | nil =>
          have h1 : u = .int kk x := hvs.1
          have h2 : u2 = .int j y := hvs.2.1
          subst h1; subst h2
          cases hk : kEq kk j with
          | false => simp [hk] at h
          | true =>
            simp only [hk] at h
            exact ⟨m, e, .one (.i kk (min x y)), _, run_v (Lib.run_min_ints m.w ts type kk j x y), .refl m e, fun _ => same, hR, rfl, h⟩
  · rename_i kk x j y
    cases args with
    | nil => exact absurd hvs (by simp [R2])
    | cons u l =>
      cases l with
      | nil => exact absurd hvs.2 (by simp [R2])
      | cons u2 l =>
        cases l with
        | cons => exact absurd hvs.2.2 (by simp [R2])
        | nil =>
          have h1 : u = .int kk x := hvs.1
          have h2 : u2 = .int j y := hvs.2.1
          subst h1; subst h2
          cases hk : kEq kk j with
          | false => simp [hk] at h
          | true =>
            simp only [hk] at h
            exact ⟨m, e, .one (.i kk (max x y)), _, run_v (Lib.run_max_ints m.w ts type kk j x y), .refl m e, fun _ => same, hR, rfl, h⟩
  · simp at h

theorem bnd1 {o : Operand} {x : V} (hR : Rel w0 G0 N F m e a.tmps) (h : e.one o = some x) : Lv m x (a.eval o) := one_lv hR h

theorem op_sound (hΓ : TabOk P Γ) (hΔ : DelOk P w0.o Δ) (hR : Rel w0 G0 N F m e a.tmps) (hfrs : Fr m e) (o : Oper) {K : SV → Env → Option ρ} {r : ρ} (h : evOp Γ Δ k o.op e K = some r)
    {next : Act → World → Prop} {Q : Exit → Act → World → Prop} (hn : ∀ m' e' s v, Onw w0 G0 N F m e a.tmps (reads o.op) K r m' e' s v → next (a.put o.dst v) m'.w) : o.wp P a m.w next Q := by
  obtain ⟨dst, op, type, pos, after, guard⟩ := o
  simp only at h hn
  have hfr := hfrs.one
  have same : ∀ i, i ≠ e.next → find e.objs i = find e.objs i := fun _ _ => rfl
  have fresh : ∀ (ob : Obj) i, i ≠ e.next → find (e.new ob).objs i = find e.objs i := fun ob i hi => by
    simp only [Env.new, find_cons]
    rw [if_neg fun e => hi e.symm]
  cases op with
  | move x =>
    simp only [evOp] at h
    cases hx : e.val x with
    | none => simp [hx] at h
    | some v =>
      simp only [hx] at h
      exact wp_value (by simp only [execOp]; rfl) (hn m e v _ ⟨.refl m e, fun _ => same, hR, val_sv hR hx, h⟩)
  | assign x =>
    simp only [evOp] at h
    cases hx : e.val x with
    | none => simp [hx] at h
    | some v =>
      simp only [hx] at h
      exact wp_value (by simp only [execOp]; rfl) (hn m e v _ ⟨.refl m e, fun _ => same, hR, val_sv hR hx, h⟩)
  | pick c x y =>
    simp only [evOp] at h
    cases hc : e.one c with
    | none => simp [hc] at h
    | some v =>
      have hl := one_lv hR hc
      cases v with
      | b z =>
        simp only [Lv] at hl
        simp only [hc] at h
        cases z with
        | true =>
          simp only [br, cond] at h
          cases hx : e.val x with
          | none => simp [hx] at h
          | some v =>
            simp only [hx] at h
            exact wp_value (w' := m.w) (v := a.eval x) (by simp [execOp, hl, asBool]) (hn m e v _ ⟨.refl m e, fun _ => same, hR, val_sv hR hx, h⟩)
        | false =>
          simp only [br, cond] at h
          cases hx : e.val y with
          | none => simp [hx] at h
          | some v =>
            simp only [hx] at h
            exact wp_value (w' := m.w) (v := a.eval y) (by simp [execOp, hl, asBool]) (hn m e v _ ⟨.refl m e, fun _ => same, hR, val_sv hR hx, h⟩)
      | _ => simp [hc] at h
  | alloc T =>
    simp only [evOp] at h
    cases hf : find Γ T with
    | none => simp [hf] at h
    | some ti =>
      simp only [hf] at h
      obtain ⟨m', v, g1, g2, g3, g4⟩ := alloc_sound hΓ hR hf hfr
      exact wp_value (run_v g1) (hn m' _ (.one (.loc e.next 0)) v ⟨g2, fun _ => fresh _, g3, g4, h⟩)
  | box T x =>
    simp only [evOp] at h
    cases hx : e.val x with
    | none => simp [hx] at h
    | some s =>
      simp only [hx] at h
      cases ht : s.isTup with
      | true => simp [ht] at h
      | false =>
        simp only [ht] at h
        obtain ⟨m', v, g1, g2, g3, g4⟩ := box_sound (P := P) (T := T) hR (val_sv hR hx) ht hfr
        exact wp_value (run_v g1) (hn m' _ (.one (.loc e.next 0)) v ⟨g2, fun _ => fresh _, g3, g4, h⟩)
  | makeInterface T x =>
    simp only [evOp] at h
    cases hf : find Γ T with
    | none => simp [hf] at h
    | some ti =>
      cases hx : e.one x with
      | none => simp [hf, hx] at h
      | some v =>
        have hl := one_lv hR hx
        cases v with
        | row id =>
          simp only [hf, hx] at h
          cases ht : ti.ty.era with
          | sl t =>
            rw [ht] at h
            simp only at h
            obtain ⟨t', ht', _⟩ := era_sl ht
            obtain ⟨hu, _⟩ := elem_info hΓ hf ht'
            obtain ⟨hid, hv, A, n, c, hs⟩ := hl
            refine wp_value (w' := m.w) (v := .iface T (a.eval x)) ?_ (hn m e (.one (.ifc T id)) _ ⟨.refl m e, fun _ => same, hR, ⟨hid, by rw [hv], A, n, c, by rw [← hv]; exact hs⟩, h⟩)
            exact run_v (by simp [Instr.makeInterface, run_underlying hu])
          | _ => rw [ht] at h; simp at h
        | _ => simp [hf, hx] at h
  | build T parts =>
    simp only [evOp] at h
    cases hf : find Γ T with
    | none => simp [hf] at h
    | some ti =>
      simp only [hf] at h
      cases h0 : Nat.beq ti.elem 0 with
      | true =>
        rw [h0] at h
        simp only at h
        cases hb : evBuild ti e parts.toList (zeros ti.ty []) with
        | none => simp [hb] at h
        | some l =>
          simp only [hb] at h
          cases ha : ti.ty.isAgg with
          | false => simp [ha] at h
          | true =>
            simp only [ha] at h
            obtain ⟨v, g1, g2⟩ := build_sound hΓ hR hf (Nat.eq_of_beq_eq_true h0) ha parts hb
            exact wp_value (run_v g1) (hn m e _ v ⟨.refl m e, fun _ => same, hR, g2, h⟩)
      | false =>
        rw [h0] at h
        simp only at h
        cases hj : find Γ ti.elem with
        | none => simp [hj] at h
        | some tj =>
          simp only [hj] at h
          cases hb : evBuildA tj.ty.size e parts.toList (zeros ti.ty []) with
          | none => simp [hb] at h
          | some l =>
            simp only [hb] at h
            cases ha : ti.ty.isAgg with
            | false => simp [ha] at h
            | true =>
              simp only [ha] at h
              obtain ⟨v, g1, g2⟩ := buildA_sound hΓ hR hf (fun e => by rw [e] at h0; simp at h0) hj ha parts hb
              exact wp_value (run_v g1) (hn m e _ v ⟨.refl m e, fun _ => same, hR, g2, h⟩)
  | buildSlice T n parts =>
    simp only [evOp] at h
    cases hf : find Γ T with
    | none => simp [hf] at h
    | some ti =>
      simp only [hf] at h
      cases hj : find Γ ti.elem with
      | none => simp [hj] at h
      | some tj =>
        simp only [hj] at h
        cases hnd : nodupN (partOwn tj.ty e parts.toList) with
        | false => simp [hnd] at h
        | true =>
        cases hb : evElems tj.ty e.objs (partEnv tj.ty e parts.toList) 0 parts.toList with
        | none => simp [hnd, hb] at h
        | some xs =>
          simp only [hnd, hb] at h
          cases h1 : Nat.beq (lenN parts.toList) n with
          | false => simp [h1] at h
          | true =>
            cases h2 : Nat.ble (n * tj.ty.size) 16777216 with
            | false => simp [h1, h2] at h
            | true =>
              simp only [h1, h2] at h
              cases h3 : isSl ti.ty tj.ty with
              | false => simp [h3] at h
              | true =>
                simp only [h3] at h
                obtain ⟨hu, hpos, _⟩ := elem_info hΓ hf (isSl_of h3)
                obtain ⟨m', v, g1, g2, g3, g4⟩ := buildSlice_sound hΓ hR hf hu hj hpos n parts hnd hb h1 h2 hfr
                exact wp_value (run_v g1) (hn m' _ (.one (.row e.next)) v ⟨g2, fun hr => by simp [reads] at hr, g3, g4, h⟩)
  | load T x =>
    simp only [evOp] at h
    cases hx : e.one x with
    | none => simp [hx] at h
    | some v =>
      simp only [hx] at h
      obtain ⟨sv, z, g1, g2, g3⟩ := load_sound hΓ hR h (one_lv hR hx)
      exact wp_value (run_v g1) (hn m e sv z ⟨.refl m e, fun _ => same, hR, g2, g3⟩)
  | store T x y =>
    simp only [evOp] at h
    cases hx : e.one x with
    | none => simp [hx] at h
    | some p =>
      cases hy : e.val y with
      | none => simp [hx, hy] at h
      | some v =>
        simp only [hx, hy] at h
        cases hos : ownStore Γ T p v e with
        | some e' =>
          rw [hos] at h
          obtain ⟨m', g1, g2, g3⟩ := ownStore_sound (P := P) hΓ hR hfrs hos (one_lv hR hx) (val_sv hR hy)
          exact wp_skip' (run_u g1) (hn m' e' _ _ ⟨g2, fun hr => by simp [reads] at hr, g3, undef_sv, h⟩)
        | none =>
        rw [hos] at h
        simp only at h
        obtain ⟨m', e', g1, g2, _, g3, g4⟩ := store_sound hΓ hR h (one_lv hR hx) (val_sv hR hy)
        exact wp_skip' (run_u g1) (hn m' e' _ _ ⟨g2, fun hr => by simp [reads] at hr, g3, undef_sv, g4⟩)
  | nilCheck x =>
    simp only [evOp] at h
    cases hx : e.one x with
    | none => simp [hx] at h
    | some v =>
      have hl := one_lv hR hx
      cases v with
      | loc id off =>
        simp only [hx] at h
        refine wp_value (w' := m.w) (v := a.eval x) ?_ (hn m e (.one (.loc id off)) _ ⟨.refl m e, fun _ => same, hR, hl, h⟩)
        simp only [execOp, hl.2]; rfl
      | el t y off =>
        simp only [hx] at h
        refine wp_value (w' := m.w) (v := a.eval x) ?_ (hn m e (.one (.el t y off)) _ ⟨.refl m e, fun _ => same, hR, hl, h⟩)
        obtain ⟨b, o, cs, e1, _⟩ := hl
        simp only [execOp, e1]; rfl
      | rel id sz j off =>
        simp only [hx] at h
        refine wp_value (w' := m.w) (v := a.eval x) ?_ (hn m e (.one (.rel id sz j off)) _ ⟨.refl m e, fun _ => same, hR, hl, h⟩)
        obtain ⟨_, b, n, c, _, _, e1⟩ := hl
        simp only [execOp, e1]; rfl
      | _ => simp [hx] at h
  | binOp op T x y yT =>
    simp only [evOp] at h
    cases hf : find Γ T with
    | none => simp [hf] at h
    | some ti =>
      cases hx : e.val x with
      | none => simp [hf, hx] at h
      | some u =>
        cases hy : e.val y with
        | none => simp [hf, hx, hy] at h
        | some v =>
          simp only [hf, hx, hy] at h
          cases h00 : (ti.ty.isAgg && !Nat.beq ti.elem 0) with
          | true => rw [h00] at h; simp at h
          | false =>
          rw [h00] at h
          simp only at h
          obtain ⟨sv, z, g1, g2, g3⟩ := evBin_sound (m := m) hΓ hf h00 h (val_sv hR hx) (val_sv hR hy) x y m.w
          exact wp_value (run_v g1) (hn m e sv z ⟨.refl m e, fun _ => same, hR, g2, g3⟩)
  | unOp op T x =>
    simp only [evOp] at h
    cases hx : e.one x with
    | none => simp [hx] at h
    | some v =>
      simp only [hx] at h
      obtain ⟨sv, z, g1, g2, g3⟩ := evUn_sound (P := P) (m := m) h (one_lv hR hx) m.w
      exact wp_value (run_v g1) (hn m e sv z ⟨.refl m e, fun _ => same, hR, g2, g3⟩)
  | convert src dst' x =>
    simp only [evOp] at h
    cases hs : find Γ src with
    | none => simp [hs] at h
    | some tj =>
      cases hd : find Γ dst' with
      | none => simp [hs, hd] at h
      | some ti =>
        cases hx : e.one x with
        | none => simp [hs, hd, hx] at h
        | some v =>
          simp only [hs, hd, hx] at h
          obtain ⟨m', sv, z, g1, g2, _, g3, g4, g5⟩ := conv_sound hΓ hR hs hd h (one_lv hR hx)
          exact wp_value (run_v g1) (hn m' e sv z ⟨g2, fun _ => same, g3, g4, g5⟩)
  | makeFunc fn first caps =>
    cases fn with
    | func f =>
      simp only [evOp] at h
      cases hfi : first.toList with
      | cons => simp [hfi] at h
      | nil =>
        cases hc : evCaps e caps.toList with
        | none => simp [hfi, hc] at h
        | some l =>
          simp only [hfi, hc] at h
          have hcs := caps_sound hR _ _ hc
          have hf0 : first = #[] := by apply Array.ext'; rw [hfi]
          subst hf0
          refine wp_value (w' := m.w) (v := .func (.func f) #[] (caps.map a.eval)) (run_v (by simp [Instr.makeFunc])) (hn m e (.one (.clo f l)) _ ⟨.refl m e, fun _ => same, hR, ⟨caps.toList.map a.eval, ?_, hcs⟩, h⟩)
          congr 1
          apply Array.ext'
          simp
    | _ => simp [evOp] at h
  | makeSlice T l c =>
    simp only [evOp] at h
    cases hf : find Γ T with
    | none => simp [hf] at h
    | some ti =>
      simp only [hf] at h
      cases hj : find Γ ti.elem with
      | none => simp [hj] at h
      | some tj =>
        simp only [hj] at h
        cases h3 : isSl ti.ty tj.ty with
        | false => simp [h3] at h
        | true =>
          simp only [h3] at h
          cases hl : e.one l with
          | none => simp [hl] at h
          | some vl =>
            cases hc : e.one c with
            | none => cases vl <;> simp [hl, hc] at h
            | some vc =>
              have l1 := one_lv hR hl
              have l2 := one_lv hR hc
              cases vl with
              | i kl n =>
                cases vc with
                | i kc n' =>
                  simp only [hl, hc] at h
                  obtain ⟨e1, k1⟩ := chk_some h
                  obtain ⟨h0, k2⟩ := chk_dec k1
                  obtain ⟨hcap, k3⟩ := chk_dec k2
                  have e1' : n = n' := by simpa using e1
                  clear h k1 k2
                  subst e1'
                  simp only [Lv] at l1 l2
                  obtain ⟨hu, hpos, _⟩ := elem_info hΓ hf (isSl_of h3)
                  obtain ⟨m', v, g1, g2, g3, g4⟩ := makeSlice_sound hΓ hR hf hu hj hpos kl kc h0 hcap hfr
                  refine wp_value (w' := m'.w) (v := v) ?_ (hn m' _ (.one (.row e.next)) v ⟨g2, fun _ => fresh _, g3, g4, k3⟩)
                  simp only [execOp, l1, l2]
                  exact run_v g1
                | _ => simp [hl, hc] at h
              | _ => simp [hl] at h
  | slice T x lo hi mx =>
    cases mx with
    | some => simp [evOp] at h
    | none =>
      simp only [evOp] at h
      cases hf : find Γ T with
      | none => simp [hf] at h
      | some ti =>
        cases hx : e.one x with
        | none => simp [hf, hx] at h
        | some v =>
          simp only [hf, hx] at h
          have hl := one_lv hR hx
          unfold evSlice at h
          cases hlo : bound e lo with
          | none => simp [hlo] at h
          | some l =>
            cases hhi : bound e hi with
            | none => simp [hlo, hhi] at h
            | some hh =>
              simp only [hlo, hhi] at h
              cases v with
              | s y =>
                simp only at h
                cases ht : tyEq ti.ty .str with
                | false => simp [ht] at h
                | true =>
                  simp only [ht] at h
                  obtain ⟨s, e1, rfl⟩ := hl
                  obtain ⟨sv, z, g1, g2, g3⟩ := sliceS_sound hΓ hf (tyEq_eq ht) hR hlo hhi h
                  refine wp_value (w' := m.w) (v := z) ?_ (hn m e sv z ⟨.refl m e, fun _ => same, hR, g2, g3⟩)
                  simp only [execOp, e1]
                  exact run_v g1
              | sl t xs =>
                simp only at h
                cases ht : tyEq ti.ty.era (.sl t) with
                | false => simp [ht] at h
                | true =>
                  simp only [ht] at h
                  obtain ⟨sv, z, g1, g2, g3⟩ := sliceN_sound hΓ hf (tyEq_eq ht) hl hR hlo hhi h
                  exact wp_value (run_v g1) (hn m e sv z ⟨.refl m e, fun _ => same, hR, g2, g3⟩)
              | row id =>
                simp only at h
                obtain ⟨hid, hv, A0, n0, c0, hs0⟩ := hl
                cases ho : e.obj id with
                | none => simp [ho] at h
                | some o =>
                  have hob := (hR.obj id _ ho).2
                  cases o with
                  | row U t q xs =>
                    simp only [ho] at h
                    cases ht : isSl ti.ty t with
                    | false => simp [ht] at h
                    | true =>
                      simp only [ht] at h
                      have hν : ∃ A c, m.ν id = .slice A xs.length c ∧ xs.length ≤ c := by
                        rcases hob.1 with ⟨e1, rfl⟩ | ⟨b, c, cs, e1, _, hc, _⟩
                        · exact ⟨none, 0, e1, Nat.le_refl _⟩
                        · exact ⟨_, c, e1, hc⟩
                      obtain ⟨A, c, hν, hc⟩ := hν
                      have hA0 : A = A.map (·.add (0 * t.size)) := by
                        rcases hob.1 with ⟨e1, _⟩ | ⟨b, c', cs, e1, _⟩
                        · rw [hν] at e1
                          simp only [Value.slice.injEq] at e1
                          rw [e1.1]; rfl
                        · rw [hν] at e1
                          simp only [Value.slice.injEq] at e1
                          rw [e1.1]
                          simp only [Option.map_some, addr_add, Nat.zero_mul, Nat.add_zero]
                      obtain ⟨sv, z, g1, g2, g3⟩ := sliceR_sound (A' := A) (c' := c) (len := xs.length) (lo := 0) hΓ hf ht hid hob.1 hν (by omega) hc (fun _ => hA0) (fun _ => ⟨rfl, rfl⟩) hR hlo hhi h
                      rw [hν] at hv
                      refine wp_value (w' := m.w) (v := z) ?_ (hn m e sv z ⟨.refl m e, fun _ => same, hR, g2, g3⟩)
                      simp only [execOp, hv]
                      exact run_v g1
                  | frow t xs =>
                    simp only [ho] at h
                    cases ht : tyEq ti.ty.era (.sl t) with
                    | false => simp [ht] at h
                    | true =>
                      simp only [ht] at h
                      have hv' : Val m.w m.G (.sl t) xs [a.eval x] := by rw [hv]; exact hob
                      obtain ⟨sv, z, g1, g2, g3⟩ := sliceN_sound hΓ hf (tyEq_eq ht) hv' hR hlo hhi h
                      exact wp_value (run_v g1) (hn m e sv z ⟨.refl m e, fun _ => same, hR, g2, g3⟩)
                  | _ => simp [ho] at h
              | rng id sz lo' hi' =>
                simp only at h
                have hl0 := hl
                obtain ⟨hid, hle, A, n, c, A', c', hν, hn', hv, hc', hA, h0⟩ := hl
                cases ho : e.obj id with
                | none => simp [ho] at h
                | some o =>
                  have hob := (hR.obj id _ ho).2
                  cases o with
                  | row U t q xs =>
                    simp only [ho] at h
                    cases ht : isSl ti.ty t && Nat.beq sz t.size with
                    | false => simp [ht] at h
                    | true =>
                      simp only [ht] at h
                      rw [Bool.and_eq_true] at ht
                      have hz := Nat.eq_of_beq_eq_true ht.2
                      subst hz
                      obtain ⟨sv, z, g1, g2, g3⟩ := sliceR_sound (A' := A') (c' := c') (len := hi' - lo') (lo := lo') hΓ hf ht.1 hid hob.1 hν (by omega) hc' (fun hh => hA (by omega)) h0 hR hlo hhi h
                      refine wp_value (w' := m.w) (v := z) ?_ (hn m e sv z ⟨.refl m e, fun _ => same, hR, g2, g3⟩)
                      simp only [execOp, hv]
                      exact run_v g1
                  | frow t xs =>
                    simp only [ho] at h
                    cases ht : tyEq ti.ty.era (.sl t) && Nat.beq sz t.size with
                    | false => simp [ht] at h
                    | true =>
                      simp only [ht] at h
                      rw [Bool.and_eq_true] at ht
                      have hz := Nat.eq_of_beq_eq_true ht.2
                      have hv' := rng_val (Gd := m.G) hob hz.symm hl0
                      obtain ⟨sv, z, g1, g2, g3⟩ := sliceN_sound hΓ hf (tyEq_eq ht.1) hv' hR hlo hhi h
                      exact wp_value (run_v g1) (hn m e sv z ⟨.refl m e, fun _ => same, hR, g2, g3⟩)
                  | _ => simp [ho] at h
              | _ => simp at h
  | fieldAddr T x i =>
    simp only [evOp] at h
    cases hf : find Γ T with
    | none => simp [hf] at h
    | some ti =>
      simp only [hf] at h
      cases hd : nth ti.offs i with
      | none => simp [hd] at h
      | some d =>
        cases ha : ti.ty.isAgg with
        | false => simp [hd, ha] at h
        | true =>
          simp only [hd, ha] at h
          cases hx : e.one x with
          | none => simp [hx] at h
          | some v =>
            have hl := one_lv hR hx
            cases v with
            | loc id off =>
              simp only [hx] at h
              obtain ⟨hid, e1⟩ := hl
              refine wp_value (w' := m.w) (v := .pointer (some ⟨m.β id, off + d, none⟩)) ?_ (hn m e (.one (.loc id (off + d))) _ ⟨.refl m e, fun _ => same, hR, ⟨hid, rfl⟩, h⟩)
              simp only [execOp, e1]
              exact run_v (fieldAt_run hΓ hf hd ha m.w _ _)
            | el t y off =>
              simp only [hx] at h
              obtain ⟨b, o, cs, e1, hH, hc, hv⟩ := hl
              refine wp_value (w' := m.w) (v := .pointer (some ⟨b, o + off + d, none⟩)) ?_ (hn m e (.one (.el t y (off + d))) _ ⟨.refl m e, fun _ => same, hR, ⟨b, o, cs, by rw [Nat.add_assoc], hH, hc, hv⟩, h⟩)
              simp only [execOp, e1]
              exact run_v (fieldAt_run hΓ hf hd ha m.w _ _)
            | rel id sz j off =>
              simp only [hx] at h
              obtain ⟨hid, b, n, c, hν, hj, e1⟩ := hl
              refine wp_value (w' := m.w) (v := .pointer (some ⟨b, j * sz + off + d, none⟩)) ?_ (hn m e (.one (.rel id sz j (off + d))) _ ⟨.refl m e, fun _ => same, hR, ⟨hid, b, n, c, hν, hj, by rw [Nat.add_assoc]⟩, h⟩)
              simp only [execOp, e1]
              exact run_v (fieldAt_run hΓ hf hd ha m.w _ _)
            | _ => simp [hx] at h
  | indexAddr T x i =>
    simp only [evOp] at h
    cases hf : find Γ T with
    | none => simp [hf] at h
    | some ti =>
      cases hx : e.one x with
      | none => simp [hf, hx] at h
      | some v =>
        cases hi : e.one i with
        | none => simp [hf, hx, hi] at h
        | some j =>
          have hl := one_lv hR hi
          cases j with
          | i kj n =>
            simp only [hf, hx, hi] at h
            simp only [Lv] at hl
            obtain ⟨sv, z, g1, g2, g3⟩ := indexAddr_sound (k := kj) hΓ hR hf h (one_lv hR hx)
            refine wp_value (w' := m.w) (v := z) ?_ (hn m e sv z ⟨.refl m e, fun _ => same, hR, g2, g3⟩)
            simp only [execOp, hl]
            exact run_v g1
          | _ => simp [hf, hx, hi] at h
  | index T x i =>
    simp only [evOp] at h
    cases hf : find Γ T with
    | none => simp [hf] at h
    | some ti =>
      cases hx : e.one x with
      | none =>
        cases hi : e.one i with
        | none => simp [hf, hx, hi] at h
        | some jv =>
          have hl := one_lv hR hi
          cases jv with
          | i kj n =>
            simp only [hf, hx, hi] at h
            cases hv : e.val x with
            | none => simp [hv] at h
            | some v =>
              simp only [hv] at h
              obtain ⟨z, kk, q, g1, g2, g3⟩ := indexArr_sound (P := P) (kk := kj) hΓ hf h (val_sv hR hv)
              refine wp_value (w' := m.w) (v := z) ?_ (hn m e (.one (.i kk q)) z ⟨.refl m e, fun _ => same, hR, g2, g3⟩)
              simp only [Lv] at hl
              simp only [execOp, hl]
              exact run_v g1
          | _ => simp [hf, hx, hi] at h
      | some v =>
        cases hi : e.one i with
        | none => cases v <;> simp [hf, hx, hi] at h
        | some j =>
          have h1 := one_lv hR hx
          have hl := one_lv hR hi
          cases v with
          | s y =>
            cases j with
            | i kj n =>
              simp only [hf, hx, hi] at h
              cases ht : tyEq ti.ty .str with
              | false => simp [ht] at h
              | true =>
                simp only [ht] at h
                obtain ⟨h0, h⟩ := chk_dec h
                obtain ⟨hlt, h⟩ := chk_dec h
                simp only [Lv] at hl
                obtain ⟨s, e1, rfl⟩ := h1
                refine wp_value (w' := m.w) (v := _) ?_ (hn m e (.one (.i .u8 ((s.data.toList.getD n.toNat 0).toNat : Nat))) _ ⟨.refl m e, fun _ => same, hR, rfl, h⟩)
                simp only [execOp, hl, e1]
                exact run_v (index_sound (P := P) hΓ hf (tyEq_eq ht) h0 hlt m.w)
            | _ => simp [hf, hx, hi] at h
          | _ => simp [hf, hx] at h
  | extract x i =>
    simp only [evOp] at h
    cases hx : e.val x with
    | none => simp [hx] at h
    | some v =>
      have hs := val_sv hR hx
      cases v with
      | tup l =>
        simp only [hx] at h
        cases hi : nth l i with
        | none => simp [hi] at h
        | some p =>
          obtain ⟨z, g1, g2⟩ := extract_sound (P := P) hs hi m.w
          obtain ⟨bb, vs⟩ := p
          rcases g2 with ⟨hb, cs, e1, hr⟩ | ⟨hb, v', ev, hr⟩
          · simp only at hb
            subst hb
            simp only [hi] at h
            exact wp_value (run_v g1) (hn m e (.agg vs) z ⟨.refl m e, fun _ => same, hR, ⟨cs, e1, hr⟩, h⟩)
          · simp only at hb ev
            subst hb; subst ev
            simp only [hi] at h
            exact wp_value (run_v g1) (hn m e (.one v') z ⟨.refl m e, fun _ => same, hR, hr, h⟩)
      | _ => simp [hx] at h
  | call c =>
    obtain ⟨callee, args, ts⟩ := c
    cases callee with
    | builtin b =>
      simp only [evOp] at h
      cases hv : valAll e args.toList with
      | none => simp [hv] at h
      | some vs =>
        simp only [hv] at h
        obtain ⟨m', e', s, v, g1, g2⟩ := builtin_sound (P := P) (type := type) (consts := args.map fun | .const _ => true | _ => false) hΓ hR hfr (valAll_sv hR _ _ hv) args h ts
        refine wp_value (w' := m'.w) (v := v) ?_ (hn m' e' s v g2)
        have e1 : (args.toList.map a.eval).toArray = args.map a.eval := by apply Array.ext'; simp
        rw [e1] at g1
        simp only [execOp, resolve, Sem.run_bind, Sem.run_pure, Result.andThen_ok, invoke]
        exact g1
    | value f =>
      simp only [evOp] at h
      cases hx : e.one f with
      | none => simp [hx] at h
      | some v =>
        have hl := one_lv hR hx
        cases v with
        | clo g caps =>
          cases hv : valAll e args.toList with
          | none => simp [hx, hv] at h
          | some vs =>
            simp only [hx, hv] at h
            obtain ⟨cv, e1, hc⟩ := hl
            have hvs := (valAll_sv hR _ _ hv).append (caps_sv _ _ hc)
            have hboth : Enters' P g ∧ Calls P g (args.toList.map a.eval ++ cv).toArray m.w fun en w' => ∃ v m' e' s, en = .returned v ∧ m'.w = w' ∧ Stp m e m' e' ∧ Rel w0 G0 N F m' e' a.tmps ∧ Sv m' s v ∧ K s e' = some r := by
              cases hsa : sortArgs (vs ++ caps.map capSV) with
              | none =>
                rw [hsa] at h
                exact call_sound (fun f c hm => ⟨(hΔ f c hm).1, (hΔ f c hm).2.1, (hΔ f c hm).2.2.2⟩) hR hfrs hvs h
              | some q =>
                obtain ⟨T, id, hh, cs⟩ := q
                rw [hsa] at h
                have heq : vs ++ caps.map capSV = [.one (.ifc T id), .one (.clo hh cs)] := by
                  unfold sortArgs at hsa
                  split at hsa
                  · rename_i T' id' h' cs' he
                    simp only [Option.some.injEq, Prod.mk.injEq] at hsa
                    obtain ⟨rfl, rfl, rfl, rfl⟩ := hsa
                    exact he
                  · cases hsa
                rw [heq] at hvs
                exact sort_sound hΓ hΔ hR hvs h
            obtain ⟨hent, hcall⟩ := hboth
            have hrun : (execOp a.eval ⟨dst, .call ⟨.value f, args, ts⟩, type, pos, after, guard⟩).run P m.w = .ok (.enter g (args.toList.map a.eval ++ cv).toArray) m.w := by
              simp only [execOp, resolve, e1, Deferred.ofValue, Sem.run_bind, Sem.run_pure, Result.andThen_ok, invoke]
              have e2 : (#[] ++ args.map a.eval ++ cv.toArray) = (args.toList.map a.eval ++ cv).toArray := by apply Array.ext'; simp
              rw [e2]
              exact hent _ _
            unfold Oper.wp
            rw [hrun, Oper.upon_enter]
            refine Calls.mono hcall ?_
            intro en w' ⟨v, m', e', s, e3, hw, g1, g2, g3, g4⟩
            subst e3; subst hw
            exact hn m' e' s v ⟨g1, fun hr => by simp [reads] at hr, g2, g3, g4⟩
        | _ => simp [hx] at h
    | invoke r n => simp [evOp] at h
  | _ => simp [evOp] at h
end
end Go.Ev
end

section
/- A region of operations, one behind the other. -/
set_option linter.unusedSimpArgs false
set_option linter.unusedVariables false
namespace Go.Ev
open Go.RowKit (Below)

/-- All names are below the next. -/
def Fresh (m : St) (e : Env) : Prop := ∀ i, m.D i → i < e.next

section
variable {P : Program} {w0 : Base} {G0 : Nat → Prop} {N : Nat} {F : List (Nat × Obj)} {m : St} {e : Env} {tm : Array Value} {Γ : Tab} {Δ : List (Nat × Con)} {k : Nat} {ρ : Type}

theorem Fresh.free (h : Fresh m e) : ¬ m.D e.next := fun hd => absurd (h _ hd) (Nat.lt_irrefl _)
theorem Fresh.frs (h : Fresh m e) : Fr m e := fun i h1 _ hd => absurd (h i hd) (by omega)
theorem Stp.fresh {m' : St} {e' : Env} (h : Stp m e m' e') (hf : Fresh m e) : Fresh m' e' := by
  intro i hi
  rcases h.D i hi with hi | ⟨_, h2⟩
  · have := hf i hi
    have := h.next
    omega
  · exact h2
theorem put_next (e : Env) (d : Option Nat) (v : SV) : (e.put d v).next = e.next := by cases d <;> rfl
theorem put_objs (e : Env) (d : Option Nat) (v : SV) : (e.put d v).objs = e.objs := by cases d <;> rfl

def dstOk (p : List Nat) (N : Nat) (d : Option Nat) : Bool := match d with
  | some d => !memN p d && Nat.blt d N
  | none => true
/-- the slots that are not written -/
def Base.ps (B : Base) : List Nat := B.pins.map (·.1)
theorem Rel.put (hR : Rel w0 G0 N F m e tm) {d : Option Nat} (hd : dstOk w0.ps N d = true) {sv : SV} {v : Value} (hv : Sv m sv v) : Rel w0 G0 N F m (e.put d sv) ((⟨tm, []⟩ : Act).put d v).tmps := by
  cases d with
  | none => exact hR
  | some d =>
    simp only [dstOk, Bool.and_eq_true] at hd
    refine hR.set (fun u hu => ?_) (Nat.le_of_ble_eq_true hd.2) hv
    have : d ∈ w0.ps := List.mem_map.2 ⟨(d, u), hu, rfl⟩
    rw [(memN_iff _ _).2 this] at hd
    simp at hd
theorem put_act (tm : Array Value) (d : Option Nat) (v : Value) : (⟨tm, []⟩ : Act).put d v = ⟨((⟨tm, []⟩ : Act).put d v).tmps, []⟩ := by cases d <;> rfl

/-- What a guard says. -/
theorem yielded_bool {all : List Oper} {ops : Array Oper} (ha : ops.toList = all) {j s : Nat} {g : Oper} (h1 : nth all j = some g) (h2 : g.dst = some s) {x : Bool} (hs : tm[s]? = some (.bool x)) : yielded ops tm j = some x := by
  rw [nth_eq, ← ha, Array.getElem?_toList] at h1
  simp [yielded, h1, h2, hs]
theorem yielded_none {all : List Oper} {ops : Array Oper} (ha : ops.toList = all) {j s : Nat} {g : Oper} (h1 : nth all j = some g) (h2 : g.dst = some s) (hs : tm[s]? = some (.tuple #[])) : yielded ops tm j = none := by
  rw [nth_eq, ← ha, Array.getElem?_toList] at h1
  simp [yielded, h1, h2, hs]

theorem ops_sound (hΓ : TabOk P Γ) (hΔ : DelOk P w0.o Δ) {ops : Array Oper} {all : List Oper} (ha : ops.toList = all) {Q : Exit → Act → World → Prop} {K : Env → Option ρ} {r : ρ}
    (hQ : ∀ m' e' tm', Rel w0 G0 N F m' e' tm' → Fresh m' e' → K e' = some r → Q .normal ⟨tm', []⟩ m'.w) :
    ∀ (l : List Oper) (m : St) (e : Env) (tm : Array Value), (∀ o ∈ l, dstOk w0.ps N o.dst = true) → Rel w0 G0 N F m e tm → Fresh m e → evOps Γ Δ k all l e K = some r → wpList P ops Q l ⟨tm, []⟩ m.w
  | [], m, e, tm, _, hR, hf, h => hQ m e tm hR hf h
  | o :: rest, m, e, tm, hd, hR, hf, h => by
    have hdo := hd o List.mem_cons_self
    have hdr : ∀ o ∈ rest, dstOk w0.ps N o.dst = true := fun o ho => hd o (List.mem_cons_of_mem _ ho)
    have ih := ops_sound hΓ hΔ ha hQ rest
    -- the operation is done
    have doit : ∀ e1 : Env, Rel w0 G0 N F m e1 tm → Fresh m e1 → evOp Γ Δ k o.op e1 (fun v e' => evOps Γ Δ k all rest (e'.put o.dst v) K) = some r → o.wp P ⟨tm, []⟩ m.w (wpList P ops Q rest) Q := by
      intro e1 hR1 hf1 h1
      refine op_sound (a := ⟨tm, []⟩) hΓ hΔ hR1 hf1.frs o h1 ?_
      intro m' e' s v ⟨g1, _, g2, g3, g4⟩
      rw [put_act]
      exact ih m' _ _ hdr (g2.put hdo g3) (by unfold Fresh; rw [put_next]; exact g1.fresh hf1) g4
    -- it is left out
    have skip : ∀ e1 : Env, Rel w0 G0 N F m e1 tm → Fresh m e1 → evOps Γ Δ k all rest (e1.put o.dst (.tup [])) K = some r → wpList P ops Q rest ((⟨tm, []⟩ : Act).put o.dst undef) m.w := by
      intro e1 hR1 hf1 h1
      rw [put_act]
      exact ih m _ _ hdr (hR1.put hdo undef_sv) (by unfold Fresh; rw [put_next]; exact hf1) h1
    unfold wpList
    unfold evOps at h
    cases hg : o.guard with
    | none =>
      rw [hg] at h
      have hw : Region.wanted o (yielded ops tm) = true := by simp [Region.wanted, hg]
      simp only [hw, if_true]
      exact .inl (doit e hR hf h)
    | some p =>
      obtain ⟨j, want⟩ := p
      rw [hg] at h
      simp only at h
      cases hj : nth all j with
      | none => simp [hj] at h
      | some g =>
        simp only [hj] at h
        cases hds : g.dst with
        | none => simp [hds] at h
        | some s =>
          simp only [hds] at h
          cases hs : e.get s with
          | none => simp [hs] at h
          | some sv =>
            obtain ⟨v, hv, hsv⟩ := hR.slots s sv hs
            have refined : ∀ {sv' : SV}, Sv m sv' v → Rel w0 G0 N F m (e.set s sv') tm := fun hsv' => hR.reset hv hsv'
            have fr : ∀ sv', Fresh m (e.set s sv') := fun _ => hf
            cases sv with
            | agg l => simp [hs] at h
            | tup l =>
              cases l with
              | cons => simp [hs] at h
              | nil =>
                simp only [hs] at h
                obtain ⟨xs, e1, hx⟩ := hsv
                have : xs = [] := by cases xs with
                  | nil => rfl
                  | cons => exact absurd hx (by simp [R2])
                subst this
                subst e1
                have hw : Region.wanted o (yielded ops tm) = false := by
                  simp only [Region.wanted, hg, yielded_none ha hj hds hv]
                  rfl
                simp only [hw, Bool.false_eq_true, if_false]
                exact skip e hR hf h
            | one y =>
              cases y with
              | b x =>
                simp only [hs] at h
                have hvx : v = .bool x := hsv
                subst hvx
                have hw : Region.wanted o (yielded ops tm) = (x == want) := by
                  simp only [Region.wanted, hg, yielded_bool ha hj hds hv]
                  cases x <;> cases want <;> rfl
                rw [hw]
                cases x <;> cases want <;> simp only [br, cond] at h
                · exact .inl (doit _ (refined (sv' := .one (.b false)) rfl) (fr _) h)
                · exact skip _ (refined (sv' := .one (.b false)) rfl) (fr _) h
                · exact skip _ (refined (sv' := .one (.b true)) rfl) (fr _) h
                · exact .inl (doit _ (refined (sv' := .one (.b true)) rfl) (fr _) h)
              | _ => simp [hs] at h
end
end Go.Ev
end

section
/- What lives on at a join or a loop's head. -/
set_option linter.unusedSimpArgs false
set_option linter.unusedVariables false
namespace Go.Ev
open Go.RowKit (Below)

def PkItem (w : World) (G H : Nat → Prop) (tm : Array Value) : (a : Item) → a.den → List Nat → Prop
  | .val s t, x, bl => ∃ v cs, tm[s]? = some v ∧ AsVal t cs v ∧ Val w G t x cs ∧ Inn w G t x cs bl
  | .var s t, x, bl => ∃ b cs T bl', tm[s]? = some (.pointer (some ⟨b, 0, none⟩)) ∧ w.heap[b]? = some (.cells (List.toArray cs) T (0, 0)) ∧ Val w G t x cs ∧ Inn w G t x cs bl' ∧ bl = bl' ++ [b]
  | .el s t, x, bl => ∃ v, tm[s]? = some v ∧ PtrH w G H t x v ∧ bl = []
  | .clo s f ts, x, bl => ∃ cv : List Value, tm[s]? = some (.func (.func f) #[] cv.toArray) ∧ CapsH w G H ts x cv ∧ bl = []
def PkAll (w : World) (G H : Nat → Prop) (tm : Array Value) : (l : List Item) → Items.den l → List Nat → Prop
  | [], _, bl => bl = []
  | [a], x, bl => PkItem w G H tm a x bl
  | a :: b :: r, x, bl => ∃ b1 b2, bl = b1 ++ b2 ∧ PkItem w G H tm a x.1 b1 ∧ PkAll w G H tm (b :: r) x.2 b2

structure Packed (w0 : Base) (G0 : Nat → Prop) (N : Nat) (w : World) (l : List Item) (y : Items.den l) (tm : Array Value) : Prop where
  size : tm.size = N ∧ ∀ (i : Nat) v, (i, v) ∈ w0.pins → tm[i]? = some v
  base : Kept w0 w
  ex : ∃ (G H : Nat → Prop) (bl : List Nat), PkAll w G H tm l y bl ∧ bl.Nodup ∧ (∀ b ∈ bl, ¬ G b ∧ ¬ H b ∧ b < w.heap.size ∧ Mine w0 b) ∧
    (∀ b, G b → b < w.heap.size) ∧ (∀ b, H b → b < w.heap.size) ∧ (∀ b, G b → G0 b ∨ Mine w0 b) ∧ ∀ b, G b → H b

section
variable {P : Program} {w0 : Base} {G0 : Nat → Prop} {N : Nat} {m m1 : St} {e : Env} {tm : Array Value}

theorem capsH_cp {m : St} : ∀ (ts : List Ty) (x : dens ts) (l : List Value), CapsH m.w m.G m.H ts x l → R2 (Cp m) (startCaps ts x) l
  | [], _, l, h => by simp only [CapsH] at h; subst h; trivial
  | t :: r, x, [], h => by simp [CapsH] at h
  | t :: r, x, v :: l, ⟨h1, h2⟩ => ⟨h1, capsH_cp r x.2 l h2⟩
/-- Unpacking goes on: 'rest' are the blocks that still wait for their names; no name of the next on is in use. -/
structure Cur (w0 : Base) (G0 : Nat → Prop) (N : Nat) (m : St) (e : Env) (tm : Array Value) (rest : List Nat) : Prop where
  rel : Rel w0 G0 N [] m e tm
  fresh : ∀ i, m.D i → i < e.next
  dis : ∀ i b, blk e.objs m i b → b ∉ rest
  nd : rest.Nodup
  bl : ∀ b ∈ rest, ¬ m.G b ∧ ¬ m.H b ∧ b < m.w.heap.size ∧ Mine w0 b
theorem Cur.wait {rest : List Nat} (h : Cur w0 G0 N m e tm rest) (L : Nat) : Wait w0 G0 N [] L m e tm rest :=
  ⟨h.rel, fun i h1 _ hd => absurd (h.fresh i hd) (by omega), fun i b hb => h.dis i b (by rwa [List.append_nil] at hb), h.nd, h.bl⟩
theorem Cur.of {m' : St} {e' : Env} {rest : List Nat} {L : Nat} (h : Wait w0 G0 N [] L m' e' tm rest) (hf : ∀ i, m.D i → i < e.next) (hn : e.next ≤ e'.next) (hD : ∀ i, m'.D i → m.D i ∨ (e.next ≤ i ∧ i < e'.next)) : Cur w0 G0 N m' e' tm rest :=
  ⟨h.rel, fun i hi => (hD i hi).elim (fun h => Nat.lt_of_lt_of_le (hf i h) hn) fun h => h.2, fun i b hb => h.dis i b (by rw [List.append_nil]; exact hb), h.nd, h.bl⟩
theorem Cur.slot {rest : List Nat} (h : Cur w0 G0 N m e tm rest) {s : Nat} {sv : SV} {v : Value} (hs : tm[s]? = some v) (hv : Sv m sv v) : Cur w0 G0 N m (e.set s sv) tm rest :=
  ⟨h.rel.reset hs hv, h.fresh, h.dis, h.nd, h.bl⟩
/-- own parts become rows -/
theorem Cur.openV {t : Ty} {x : t.den} {cs : List Value} {bl rest : List Nat} (h : Cur w0 G0 N m e tm (bl ++ rest)) (hv : Val m.w m.G t x cs) (hi : Inn m.w m.G t x cs bl) :
    ∃ m', Grow m m' ∧ Cur w0 G0 N m' (Ev.openV e t x).1 tm rest ∧ R2 (Lv m') (Ev.openV e t x).2 cs := by
  obtain ⟨m', g, d, w, r⟩ := openV_sound (rest := rest) t x m e cs bl rest hv hi (h.wait (Ev.openV e t x).1.next) (Nat.le_refl _)
  exact ⟨m', g, .of w h.fresh (openV_next t e x) d, r⟩
theorem Cur.openT {t : Ty} {x : t.den} {cs : List Value} {bl rest : List Nat} (h : Cur w0 G0 N m e tm (bl ++ rest)) (hv : Val m.w m.G t x cs) (hi : Inn m.w m.G t x cs bl) :
    ∃ m', Grow m m' ∧ Cur w0 G0 N m' (Ev.openT e t x).1 tm rest ∧ R2 (Lv m') (Ev.openT e t x).2 cs := by
  unfold Ev.openT
  cases ht : t.noOwn with
  | true =>
    have := hi.is_nil ht
    subst this
    exact ⟨m, .refl m, h, Val.enc hv⟩
  | false => exact h.openV hv hi
theorem svOf_sv {t : Ty} {l : List V} {cs : List Value} {v : Value} (h : R2 (Lv m) l cs) (ha : AsVal t cs v) : Sv m (svOf t l) v := by
  unfold svOf
  unfold AsVal at ha
  cases hg : t.isAgg with
  | true => rw [hg] at ha; exact ⟨cs, ha, h⟩
  | false =>
    rw [hg] at ha
    simp only at ha
    subst ha
    match l, h with
    | [a], h => exact h.1
/-- A variable in a block that is there. -/
theorem Cur.var {b : Nat} {l : List V} {cs : List Value} {T : Nat} {rest : List Nat} (h : Cur w0 G0 N m e tm ([b] ++ rest)) (hh : m.w.heap[b]? = some (.cells cs.toArray T (0, 0))) (hr : R2 (Lv m) l cs) :
    ∃ m', Grow m m' ∧ Cur w0 G0 N m' (e.new (.var l)) tm rest ∧ Lv m' (.loc e.next 0) (.pointer (some ⟨b, 0, none⟩)) := by
  have hfr : ¬ m.D e.next := fun hd => absurd (h.fresh _ hd) (Nat.lt_irrefl _)
  let m' : St := { m with β := fun i => if i = e.next then b else m.β i, D := fun i => m.D i ∨ i = e.next }
  have hle : m.le m' := ⟨fun b hb => ⟨hb, rfl⟩, fun b hb => ⟨hb, rfl⟩, fun _ h => .inl h, fun i hi => if_neg (fun (q : i = e.next) => hfr (q ▸ hi)), fun _ _ => rfl, fun _ _ => rfl, fun _ _ => rfl⟩
  have hg : Grow m m' := ⟨hle, rfl, rfl, rfl⟩
  have hβ : m'.β e.next = b := if_pos rfl
  have hn := List.nodup_append.1 h.nd
  obtain ⟨o1, o2, o3, o4⟩ := h.bl b (by simp)
  have hok0 : ObjsOk w0 G0 m e.objs := by have := h.rel.ok; rwa [List.append_nil] at this
  have hok : ObjsOk w0 G0 m' ((e.next, .var l) :: e.objs) := hok0.more hle (.inr rfl) _ hok0.base (fun _ _ _ => rfl) (fun b hb => ⟨.inl hb, hok0.liveG b hb⟩) (fun b hb => ⟨.inl hb, hok0.liveH b hb⟩) (Nat.le_refl _) hok0.gh
    ⟨cs, T, by rw [hβ]; exact hh, hr.imp fun _ _ hx => Lv.le hle hx⟩ fun b' hb => by
      unfold blk at hb
      rw [find_cons, if_pos rfl] at hb
      simp only [hβ] at hb
      subst hb
      exact ⟨o1, o2, o3, o4, fun i hi => h.dis i _ hi (by simp)⟩
  refine ⟨m', hg, ⟨h.rel.push hfr hle _ (by rw [List.append_nil]; exact hok), fun i hi => ?_, fun i b' hb hm => ?_, hn.2.1, fun b hb => h.bl b (List.mem_append_right _ hb)⟩, .inr rfl, by rw [hβ]⟩
  · show i < e.next + 1
    rcases hi with hi | hi
    · have := h.fresh i hi; omega
    · omega
  · have hb : blk ((e.next, .var l) :: e.objs) m' i b' := hb
    by_cases hi : i = e.next
    · subst hi
      unfold blk at hb
      rw [find_cons, if_pos rfl] at hb
      simp only [hβ] at hb
      subst hb
      exact hn.2.2 _ (by simp) _ hm rfl
    · refine h.dis i b' ?_ (List.mem_append_right _ hm)
      rw [← blk_le hle hok0.objs]
      unfold blk at hb ⊢
      rw [find_cons, if_neg fun q => hi q.symm] at hb
      exact hb

theorem unpackItem_sound {a : Item} {x : a.den} {bl rest : List Nat} (h : PkItem m.w m.G m.H tm a x bl) (hc : Cur w0 G0 N m e tm (bl ++ rest)) :
    ∃ m', Grow m m' ∧ Cur w0 G0 N m' (unpackItem e a x) tm rest := by
  cases a with
  | val s t =>
    obtain ⟨v, cs, hs, ha, hv, hi⟩ := h
    simp only [unpackItem]
    cases ht : t.noOwn with
    | true =>
      have := hi.is_nil ht
      subst this
      exact ⟨m, .refl m, hc.slot hs (sv_ofTy hv ha)⟩
    | false =>
      obtain ⟨m', g, hc', r⟩ := hc.openV hv hi
      exact ⟨m', g, hc'.slot hs (svOf_sv r ha)⟩
  | el s t =>
    obtain ⟨v, hs, ⟨b, o, cs, e2, hH, hcl, hv⟩, e1⟩ := h
    subst e1
    exact ⟨m, .refl m, hc.slot hs (sv := .one (.el t x 0)) ⟨b, o, cs, e2, hH, hcl, hv⟩⟩
  | clo s f ts =>
    obtain ⟨cv, hs, hcv, e1⟩ := h
    subst e1
    exact ⟨m, .refl m, hc.slot hs (sv := .one (.clo f (startCaps ts x))) ⟨cv, rfl, capsH_cp ts x cv hcv⟩⟩
  | var s t =>
    obtain ⟨b, cs, T, bl', hs, hh, hv, hi, e1⟩ := h
    subst e1
    rw [List.append_assoc] at hc
    obtain ⟨m1, g1, hc1, r1⟩ := hc.openT hv hi
    obtain ⟨m2, g2, hc2, l2⟩ := hc1.var (T := T) (by rw [g1.w]; exact hh) r1
    exact ⟨m2, g1.trans g2, hc2.slot hs (sv := .one (.loc _ 0)) l2⟩
theorem PkItem.grow {m' : St} (g : Grow m m') {a : Item} {x : a.den} {bl : List Nat} (h : PkItem m.w m.G m.H tm a x bl) : PkItem m'.w m'.G m'.H tm a x bl := by rw [g.w, g.G, g.H]; exact h
theorem PkAll.grow {m' : St} (g : Grow m m') {l : List Item} {x : Items.den l} {bl : List Nat} (h : PkAll m.w m.G m.H tm l x bl) : PkAll m'.w m'.G m'.H tm l x bl := by rw [g.w, g.G, g.H]; exact h
theorem unpackAll_sound : ∀ (l : List Item) (x : Items.den l) (m : St) (e : Env) (bl rest : List Nat), PkAll m.w m.G m.H tm l x bl → Cur w0 G0 N m e tm (bl ++ rest) →
    ∃ m', Grow m m' ∧ Cur w0 G0 N m' (unpackAll e l x) tm rest
  | [], x, m, e, bl, rest, h, hc => by
    simp only [PkAll] at h
    subst h
    exact ⟨m, .refl m, hc⟩
  | [a], x, m, e, bl, rest, h, hc => unpackItem_sound h hc
  | a :: b :: r, x, m, e, bl, rest, ⟨b1, b2, e1, h1, h2⟩, hc => by
    subst e1
    rw [List.append_assoc] at hc
    obtain ⟨m1, g1, hc1⟩ := unpackItem_sound h1 hc
    obtain ⟨m2, g2, hc2⟩ := unpackAll_sound (b :: r) x.2 m1 _ b2 rest (h2.grow g1) hc1
    exact ⟨m2, g1.trans g2, hc2⟩

theorem unpack_sound {w : World} {l : List Item} {y : Items.den l} (h : Packed w0 G0 N w l y tm) : ∃ m, m.w = w ∧ Rel w0 G0 N [] m (unpack l y) tm ∧ Fresh m (unpack l y) := by
  obtain ⟨G, H, bl, h1, h2, h3, h4, h5, h6, h7⟩ := h.ex
  let m : St := ⟨w, G, H, fun _ => 0, fun _ => .bool true, fun _ => False, fun _ => [], fun _ _ => .bool true⟩
  have hok : ObjsOk w0 G0 m [] := ⟨h.base, fun i o hf => by simp [find] at hf, fun i j b hb => by simp [blk, find] at hb, fun i b hb => by simp [blk, find] at hb, h4, h5, h6, h7⟩
  have hc : Cur w0 G0 N m ⟨[], [], 0⟩ tm (bl ++ []) := by
    rw [List.append_nil]
    exact ⟨⟨hok, fun i o hf => by simp [find] at hf, h.size, fun t sv hf => by simp [find] at hf⟩, fun i hi => hi.elim, fun i b hb => by simp [blk, find] at hb, h2, h3⟩
  obtain ⟨m', g, hc'⟩ := unpackAll_sound l y m _ bl [] h1 hc
  exact ⟨m', g.w, hc'.rel, hc'.fresh⟩
end
end Go.Ev
end

section
/- Packing. -/
set_option linter.unusedSimpArgs false
set_option linter.unusedVariables false
namespace Go.Ev
open Go.RowKit (Below)

section
variable {P : Program} {w0 : Base} {G0 : Nat → Prop} {N : Nat} {m : St} {e : Env} {tm : Array Value} {os ov : List (Nat × Obj)} {G H : Nat → Prop}

theorem packItem_sound (hR : Rel w0 G0 N [] m e tm) (hk : Tk m e.objs ov false G) (hH : ∀ b, m.H b → H b) (hV : ∀ i vs, find ov i = some (.var vs) → H (m.β i))
    {a : Item} {x : a.den} (hn : (ownIds e a).Nodup) (h : packItem e ov a = some x) : ∃ bl, PkItem m.w G H tm a x bl ∧ bl.Nodup ∧ ∀ b ∈ bl, ∃ i ∈ ownIds e a, blk e.objs m i b := by
  cases a with
  | val s t =>
    simp only [packItem] at h
    simp only [ownIds] at hn ⊢
    cases hs : e.get s with
    | none => simp [hs] at h
    | some sv =>
      simp only [hs] at h hn ⊢
      obtain ⟨v, hv, hsv⟩ := hR.slots s sv hs
      obtain ⟨cs, h1, h2, bl, h3, h4, h5⟩ := takeSV_sound hk hn h hsv
      exact ⟨bl, ⟨v, cs, hv, h1, h2, h3⟩, h4, h5⟩
  | el s t =>
    simp only [packItem] at h
    refine ⟨[], ?_, List.nodup_nil, fun b hb => by simp at hb⟩
    cases hs : e.get s with
    | none => simp [hs] at h
    | some sv =>
      obtain ⟨v, hv, hsv⟩ := hR.slots s sv hs
      cases sv with
      | one y =>
        cases y with
        | el u z off =>
          cases off with
          | succ => simp [hs] at h
          | zero =>
            simp only [hs] at h
            obtain ⟨b, o, cs, e1, hb, hc, hval⟩ := hsv
            exact ⟨v, hv, ⟨b, o, cs, by simpa using e1, hH b hb, hc, Val.cast h (Val.mono (fun b hb => ⟨hk.hG b hb, rfl⟩) _ _ _ hval)⟩, rfl⟩
        | loc id off =>
          cases off with
          | succ => simp [hs] at h
          | zero =>
            simp only [hs] at h
            exact ⟨v, hv, varTy_sound hk.hov hk.hG hH hV hk.hR h hsv.2, rfl⟩
        | _ => simp [hs] at h
      | _ => simp [hs] at h
  | clo s f ts =>
    simp only [packItem] at h
    refine ⟨[], ?_, List.nodup_nil, fun b hb => by simp at hb⟩
    cases hs : e.get s with
    | none => simp [hs] at h
    | some sv =>
      obtain ⟨v, hv, hsv⟩ := hR.slots s sv hs
      cases sv with
      | one y =>
        cases y with
        | clo g caps =>
          simp only [hs] at h
          cases hg : Nat.beq f g with
          | false => simp [hg] at h
          | true =>
            simp only [hg] at h
            have := Nat.eq_of_beq_eq_true hg
            subst this
            obtain ⟨cv, e1, hc⟩ := hsv
            subst e1
            exact ⟨cv, hv, bindCaps_sound hk.hov hk.hG hH hV hk.hR ts caps x cv h hc, rfl⟩
        | _ => simp [hs] at h
      | _ => simp [hs] at h
  | var s t =>
    simp only [packItem] at h
    cases hs : e.get s with
    | none => simp [hs] at h
    | some sv =>
      obtain ⟨v, hv, hsv⟩ := hR.slots s sv hs
      cases sv with
      | one y =>
        cases y with
        | loc id off =>
          cases off with
          | succ => simp [hs] at h
          | zero =>
            simp only [hs] at h
            cases hf : e.obj id with
            | none => simp [hf] at h
            | some o =>
              cases o with
              | var vs =>
                simp only [hf] at h
                simp only [ownIds, hs, hf] at hn ⊢
                have hnd := List.nodup_append.1 hn
                obtain ⟨cs, T, hh, hr⟩ := hk.ho id _ hf
                obtain ⟨hval, bl, h3, h4, h5⟩ := takeT_sound hk hnd.1 h hr
                have hβ : blk e.objs m id (m.β id) := by
                  have hf' : find e.objs id = some (.var vs) := hf
                  unfold blk; rw [hf']
                refine ⟨bl ++ [m.β id], ⟨m.β id, cs, T, bl, by rw [hv, hsv.2], hh, hval, h3, rfl⟩, List.nodup_append.2 ⟨h4, by simp, fun p hp q hq e1 => ?_⟩, fun b hb => ?_⟩
                · subst e1
                  simp only [List.mem_singleton] at hq
                  subst hq
                  obtain ⟨i, hi, hb⟩ := h5 _ hp
                  exact hnd.2.2 i hi id (by simp) (hk.inj i id _ hb hβ)
                · rcases List.mem_append.1 hb with hb | hb
                  · obtain ⟨i, hi, hb⟩ := h5 _ hb
                    exact ⟨i, List.mem_append_left _ hi, hb⟩
                  · simp only [List.mem_singleton] at hb
                    subst hb
                    exact ⟨id, by simp, hβ⟩
              | _ => simp [hf] at h
        | _ => simp [hs] at h
      | _ => simp [hs] at h

theorem packAll_sound (hR : Rel w0 G0 N [] m e tm) (hk : Tk m e.objs ov false G) (hH : ∀ b, m.H b → H b) (hV : ∀ i vs, find ov i = some (.var vs) → H (m.β i)) :
    ∀ (l : List Item) (x : Items.den l), (ownAll e l).Nodup → packAll e ov l = some x → ∃ bl, PkAll m.w G H tm l x bl ∧ bl.Nodup ∧ ∀ b ∈ bl, ∃ i ∈ ownAll e l, blk e.objs m i b
  | [], x, _, h => ⟨[], rfl, List.nodup_nil, fun b hb => by simp at hb⟩
  | [a], x, hn, h => by
    simp only [packAll] at h
    simp only [ownAll, List.append_nil] at hn ⊢
    exact packItem_sound hR hk hH hV hn h
  | a :: b :: r, x, hn, h => by
    simp only [packAll] at h
    have hn' : (ownIds e a ++ ownAll e (b :: r)).Nodup := hn
    have hnd := List.nodup_append.1 hn'
    cases h1 : packItem e ov a with
    | none => simp [h1] at h
    | some y =>
      cases h2 : packAll e ov (b :: r) with
      | none => simp [h1, h2] at h
      | some z =>
        simp only [h1, h2, Option.some.injEq] at h
        subst h
        obtain ⟨b1, k1, k2, k3⟩ := packItem_sound hR hk hH hV hnd.1 h1
        obtain ⟨b2, l1, l2, l3⟩ := packAll_sound hR hk hH hV (b :: r) z hnd.2.1 h2
        refine ⟨b1 ++ b2, ⟨b1, b2, rfl, k1, l1⟩, List.nodup_append.2 ⟨k2, l2, fun p hp q hq e1 => ?_⟩, fun p hp => ?_⟩
        · subst e1
          obtain ⟨i, hi, g1⟩ := k3 p hp
          obtain ⟨j, hj, g2⟩ := l3 p hq
          exact hnd.2.2 i hi j hj (hk.inj i j p g1 g2)
        · rcases List.mem_append.1 hp with hp | hp
          · obtain ⟨i, hi, g⟩ := k3 p hp
            exact ⟨i, List.mem_append_left _ hi, g⟩
          · obtain ⟨i, hi, g⟩ := l3 p hp
            exact ⟨i, List.mem_append_right _ hi, g⟩

/-- Objects are taken out; all else is read alone from now on. -/
theorem rel_split (hR : Rel w0 G0 N [] m e tm) (ids : List Nat) :
    Tk m e.objs (eraseAll ids e.objs) false (fun b => m.G b ∨ ∃ i, blk (eraseAll ids e.objs) m i b) ∧ (∀ i vs, find (eraseAll ids e.objs) i = some (.var vs) → m.H (m.β i) ∨ ∃ j, blk (eraseAll ids e.objs) m j (m.β i)) ∧
      ∀ i b, i ∈ ids → blk e.objs m i b → ¬ (m.G b ∨ ∃ i, blk (eraseAll ids e.objs) m i b) ∧ ¬ (m.H b ∨ ∃ i, blk (eraseAll ids e.objs) m i b) ∧ b < m.w.heap.size ∧ Mine w0 b := by
  have hok : ObjsOk w0 G0 m e.objs := by have := hR.ok; rwa [List.append_nil] at this
  refine ⟨⟨fun i o hi => (hok.objs i o hi).2, fun i o hi => (hok.objs i o (erased hi).2).2, fun b hb => .inl hb, fun _ i T u n xs b hf hb => .inr ⟨i, by unfold blk; rw [hf]; exact hb⟩, hok.inj⟩, fun i vs hf => .inr ⟨i, by unfold blk; rw [hf]⟩, fun i b hi hb => ?_⟩
  obtain ⟨o1, o2, o3, o4⟩ := hok.out i b hb
  have hap : ∀ j, ¬ blk (eraseAll ids e.objs) m j b := fun j hj => by
    have := hR.apart hi hb j
    rw [List.append_nil] at this
    exact this hj
  exact ⟨fun h => h.elim o1 fun ⟨j, hj⟩ => hap j hj, fun h => h.elim o2 fun ⟨j, hj⟩ => hap j hj, o3, o4⟩
theorem rel_splitG (hR : Rel w0 G0 N [] m e tm) (ids : List Nat) {b : Nat} (h : ∃ i, blk (eraseAll ids e.objs) m i b) : b < m.w.heap.size ∧ Mine w0 b := by
  obtain ⟨i, hi⟩ := h
  have hb : blk e.objs m i b := by
    unfold blk at hi ⊢
    cases hf : find (eraseAll ids e.objs) i with
    | none => rw [hf] at hi; exact hi.elim
    | some o => rw [hf] at hi; rw [(erased hf).2]; exact hi
  obtain ⟨_, _, o3, o4⟩ := hR.ok.out i b (blk_left hb)
  exact ⟨o3, o4⟩

theorem pack_sound (hR : Rel w0 G0 N [] m e tm) {l : List Item} {y : Items.den l} (h : pack e l = some y) : Packed w0 G0 N m.w l y tm := by
  unfold pack at h
  cases hn : nodupN (ownAll e l) with
  | false => simp [hn] at h
  | true =>
    simp only [hn] at h
    obtain ⟨hk, hV, hout⟩ := rel_split hR (ownAll e l)
    obtain ⟨bl, k1, k2, k3⟩ := packAll_sound (H := fun b => m.H b ∨ ∃ i, blk (eraseAll (ownAll e l) e.objs) m i b) hR hk (fun b hb => .inl hb) hV l y (nodupN_nodup _ hn) h
    refine ⟨hR.tms, hR.ok.base, _, _, bl, k1, k2, fun b hb => ?_, fun b hb => ?_, fun b hb => ?_, fun b hb => ?_, fun b hb => ?_⟩
    · obtain ⟨i, hi, hbi⟩ := k3 b hb
      exact hout i b hi hbi
    · exact hb.elim (hR.ok.liveG b) fun h => (rel_splitG hR _ h).1
    · exact hb.elim (hR.ok.liveH b) fun h => (rel_splitG hR _ h).1
    · exact hb.elim (hR.ok.subG b) fun h => .inr (rel_splitG hR _ h).2
    · exact hb.imp (hR.ok.gh b) fun h => h
end
end Go.Ev
end

section
/- A body's code. -/
set_option linter.unusedSimpArgs false
set_option linter.unusedVariables false
namespace Go.Ev
open Go.RowKit (Below)

theorem wp_loop_fuel {P : Program} {Q : Exit → Act → World → Prop} {c : Code} (I : Nat → Act → World → Prop)
    (round : ∀ n a w, I n a w → c.wp P (Exit.then (fun a' w' => ∃ n', n' < n ∧ I n' a' w') Q) a w) {n : Nat} {a : Act} {w : World} (h₀ : I n a w) : (Code.loop c).wp P Q a w := by
  intro b k cs
  have key : ∀ n a w, I n a w → ∃ e a' w', Q e a' w' ∧ Arrives P (lone (b.at a (.code c :: .inLoop c :: k)) cs w) b k cs e a' w' := by
    intro n
    induction n using Nat.strongRecOn with
    | _ n ih =>
      intro a w hI
      obtain ⟨e, a₁, w₁, hq, harr⟩ := round n a w hI b (.inLoop c :: k) cs
      cases e with
      | normal =>
        obtain ⟨n', hlt, hI₁⟩ := hq
        obtain ⟨e₂, a₂, w₂, hq₂, harr₂⟩ := ih n' hlt a₁ w₁ hI₁
        exact ⟨e₂, a₂, w₂, hq₂, .of_steps (Steps.trans harr (.one step_inLoop)) harr₂⟩
      | exit id => exact ⟨_, a₁, w₁, hq, .pass (x := .inLoop c) rfl (fun _ _ => .inl (by simp)) harr⟩
      | goto l => exact ⟨_, a₁, w₁, hq, .pass (x := .inLoop c) rfl (fun _ _ => .inl (by simp)) harr⟩
      | ret => exact ⟨_, a₁, w₁, hq, .pass (x := .inLoop c) rfl (fun _ _ => .inl (by simp)) harr⟩
      | panic ch => exact ⟨_, a₁, w₁, hq, .pass (x := .inLoop c) rfl (fun _ _ => .inl (by simp)) harr⟩
      | outgrown => exact ⟨_, a₁, w₁, hq, .pass (x := .inLoop c) rfl (fun _ _ => .inl (by simp)) harr⟩
  obtain ⟨e, a', w', hq, harr⟩ := key n a w h₀
  exact ⟨e, a', w', hq, .of_steps (.one step_loop) harr⟩

def allDst (q : List Nat) (N : Nat) : List Oper → Bool
  | [] => true
  | o :: r => match dstOk q N o.dst with
    | true => allDst q N r
    | false => false
theorem allDst_mem {q : List Nat} {N : Nat} : ∀ {l : List Oper}, allDst q N l = true → ∀ o ∈ l, dstOk q N o.dst = true
  | [], _, o, h => by simp at h
  | p :: r, h, o, hm => by
    simp only [allDst] at h
    cases hp : dstOk q N p.dst with
    | false => simp [hp] at h
    | true =>
      simp only [hp] at h
      rcases List.mem_cons.1 hm with e | e
      · subst e; exact hp
      · exact allDst_mem h o e
def codeDst (p : List Nat) (N : Nat) : Code → Bool
  | .region _ ops _ => allDst p N ops.toList
  | .seq a b => match codeDst p N a with
    | true => codeDst p N b
    | false => false
  | .cond _ a b => match codeDst p N a with
    | true => codeDst p N b
    | false => false
  | .block _ c => codeDst p N c
  | .loop c => codeDst p N c
  | .scope c => codeDst p N c
  | _ => true
theorem both {a b : Bool} (h : (match a with
    | true => b
    | false => false) = true) : a = true ∧ b = true := by cases a <;> cases b <;> simp_all

theorem dstOk_sub {p q : List Nat} {N : Nat} (h : ∀ i, i ∈ p → i ∈ q) {d : Option Nat} (hd : dstOk q N d = true) : dstOk p N d = true := by
  cases d with
  | none => rfl
  | some d =>
    simp only [dstOk, Bool.and_eq_true] at hd ⊢
    refine ⟨?_, hd.2⟩
    cases hm : memN p d with
    | false => rfl
    | true =>
      have := h d ((memN_iff _ _).1 hm)
      rw [(memN_iff _ _).2 this] at hd
      simp at hd
theorem codeDst_sub {p q : List Nat} {N : Nat} (h : ∀ i, i ∈ p → i ∈ q) : ∀ c : Code, codeDst q N c = true → codeDst p N c = true
  | .region _ ops _, hc => by
    simp only [codeDst] at hc ⊢
    have key : ∀ l : List Oper, allDst q N l = true → allDst p N l = true := by
      intro l
      induction l with
      | nil => intro _; rfl
      | cons o r ih =>
        intro hl
        simp only [allDst] at hl ⊢
        cases hd : dstOk q N o.dst with
        | false => simp [hd] at hl
        | true => rw [dstOk_sub h hd]; rw [hd] at hl; exact ih hl
    exact key _ hc
  | .seq a b, hc => by
    simp only [codeDst] at hc ⊢
    obtain ⟨h1, h2⟩ := both hc
    rw [codeDst_sub h a h1]; exact codeDst_sub h b h2
  | .cond _ a b, hc => by
    simp only [codeDst] at hc ⊢
    obtain ⟨h1, h2⟩ := both hc
    rw [codeDst_sub h a h1]; exact codeDst_sub h b h2
  | .block _ c, hc => by simp only [codeDst] at hc ⊢; exact codeDst_sub h c hc
  | .loop c, hc => by simp only [codeDst] at hc ⊢; exact codeDst_sub h c hc
  | .scope c, hc => by simp only [codeDst] at hc ⊢; exact codeDst_sub h c hc
  | .skip, _ | .exit _, _ | .ret, _ | .label _, _ | .goto _, _ | .rangeFunc .., _ | .refuse _, _ => rfl

/-- What is known at an end of a piece of code. -/
def Post (w0 : Base) (G0 : Nat → Prop) (N : Nat) {ρ σ : Type} (fin : Env → Option ρ) (ι : ρ → Option σ) (K : Ex → Env → Option σ) (r : σ) : Exit → Act → World → Prop
  | .normal, a, w => ∃ m e, m.w = w ∧ a.defers = [] ∧ Rel w0 G0 N [] m e a.tmps ∧ Fresh m e ∧ K .normal e = some r
  | .exit i, a, w => ∃ m e, m.w = w ∧ a.defers = [] ∧ Rel w0 G0 N [] m e a.tmps ∧ Fresh m e ∧ K (.exit i) e = some r
  | .ret, a, w => ∃ m e z, m.w = w ∧ a.defers = [] ∧ Rel w0 G0 N [] m e a.tmps ∧ fin e = some z ∧ ι z = some r
  | _, _, _ => False

/-- A region in any order. -/
def DrawSound (P : Program) (wo : World) (Γ : Tab) (Δ : List (Nat × Con)) : Prop := ∀ {w0 : Base} {G0 : Nat → Prop} {N : Nat} {m : St} {e : Env} {tm : Array Value} {k id : Nat} {ρ : Type} {ops : Array Oper} {K : Env → Option ρ} {r : ρ} {Q : Exit → Act → World → Prop}, w0.o = wo →
    (∀ o ∈ ops.toList, dstOk w0.ps N o.dst = true) → slotsOk ops.toList (ancs 0 ops.toList []) 0 ops.toList = true → Rel w0 G0 N [] m e tm → Fresh m e → evOpsD Γ Δ k ops.toList (ancs 0 ops.toList []) ops.toList 0 [] e K = some r →
    (∀ m' e' tm', Rel w0 G0 N [] m' e' tm' → Fresh m' e' → K e' = some r → Q .normal ⟨tm', []⟩ m'.w) → (Code.region id ops true).wp P Q ⟨tm, []⟩ m.w

section
variable {P : Program} {w0 : Base} {G0 : Nat → Prop} {N : Nat} {Γ : Tab} {Δ : List (Nat × Con)} {A : Ann} {ρ : Type} {fin : Env → Option ρ}

theorem toJoin_some {σ : Type} {its : List Item} {e : Env} {f : Items.den its → Option σ} {r : σ} (h : toJoin its e f = some r) : ∃ y, pack e its = some y ∧ f y = some r := by
  unfold toJoin at h
  cases hp : pack e its with
  | none => simp [hp] at h
  | some y => simp only [hp] at h; exact ⟨y, rfl, h⟩

theorem act_eta {a : Act} (h : a.defers = []) : a = ⟨a.tmps, []⟩ := by cases a; simp only at h; subst h; rfl

/-- A piece of code is sound. -/
def Sound (P : Program) (w0 : Base) (G0 : Nat → Prop) (N : Nat) {ρ : Type} (fin : Env → Option ρ) (c : Code) (run : Run ρ) : Prop :=
  ∀ {σ : Type} (ι : ρ → Option σ) (K : Ex → Env → Option σ) (e : Env) (r : σ) (m : St) (tm : Array Value), Rel w0 G0 N [] m e tm → Fresh m e → run ι e K = some r → c.wp P (Post w0 G0 N fin ι K r) ⟨tm, []⟩ m.w

theorem loopQ_sound {id : Nat} {its js : List Item} {body : Code} {run : Nat → Run ρ} (hb : ∀ k, Sound P w0 G0 N fin body (run k)) {k : Nat} {x : Items.den its} {y : Items.den js} {tm : Array Value} {w : World} (hx : Packed w0 G0 N w its x tm)
    (h : loopQ id its js run k x = some y) {Q : Exit → Act → World → Prop} (hQ : ∀ tm' w', Packed w0 G0 N w' js y tm' → Q .normal ⟨tm', []⟩ w') : (Code.block id (.loop body)).wp P Q ⟨tm, []⟩ w := by
  refine wp_block (wp_loop_fuel (fun n a w => a.defers = [] ∧ ∃ x, Packed w0 G0 N w its x a.tmps ∧ loopQ id its js run n x = some y) ?_ (n := k) ⟨rfl, x, hx, h⟩)
  intro n a w ⟨hd, x, hx, h⟩
  cases n with
  | zero => simp [loopQ] at h
  | succ n =>
    simp only [loopQ, stepQ] at h
    obtain ⟨m, hw, hR, hf⟩ := unpack_sound hx
    rw [act_eta hd, ← hw]
    refine wp_mono (hb n _ _ _ _ m a.tmps hR hf h) ?_
    intro ex a' w' hp
    cases ex with
    | normal =>
      obtain ⟨m', e', rfl, hd', hR', hf', hK⟩ := hp
      obtain ⟨x', hp', hl⟩ := toJoin_some hK
      exact ⟨n, Nat.lt_succ_self n, hd', x', pack_sound hR' hp', hl⟩
    | exit i =>
      obtain ⟨m', e', rfl, hd', hR', hf', hK⟩ := hp
      simp only at hK
      cases hi : Nat.beq i id with
      | false => simp [hi] at hK
      | true =>
        simp only [hi] at hK
        have := Nat.eq_of_beq_eq_true hi
        subst this
        obtain ⟨y', hp', hl⟩ := toJoin_some hK
        obtain rfl := Option.some.inj hl
        simp only [Exit.then, Exit.inBlock, if_pos]
        rw [act_eta hd']
        exact hQ _ _ (pack_sound hR' hp')
    | ret =>
      obtain ⟨m', e', z, _, _, _, _, hz⟩ := hp
      simp at hz
    | _ => exact hp.elim

theorem loopR_sound {id : Nat} {its js : List Item} {body : Code} {run : Nat → Run ρ} (hb : ∀ k, Sound P w0 G0 N fin body (run k)) {k : Nat} {x : Items.den its} {y : Items.den js ⊕ ρ} {tm : Array Value} {w : World} (hx : Packed w0 G0 N w its x tm)
    (h : loopR id its js run k x = some y) {Q : Exit → Act → World → Prop} (hQ : ∀ z, y = .inl z → ∀ tm' w', Packed w0 G0 N w' js z tm' → Q .normal ⟨tm', []⟩ w')
    (hQr : ∀ z, y = .inr z → ∀ m e tm', Rel w0 G0 N [] m e tm' → fin e = some z → Q .ret ⟨tm', []⟩ m.w) : (Code.block id (.loop body)).wp P Q ⟨tm, []⟩ w := by
  refine wp_block (wp_loop_fuel (fun n a w => a.defers = [] ∧ ∃ x, Packed w0 G0 N w its x a.tmps ∧ loopR id its js run n x = some y) ?_ (n := k) ⟨rfl, x, hx, h⟩)
  intro n a w ⟨hd, x, hx, h⟩
  cases n with
  | zero => simp [loopR] at h
  | succ n =>
    simp only [loopR, stepR] at h
    obtain ⟨m, hw, hR, hf⟩ := unpack_sound hx
    rw [act_eta hd, ← hw]
    refine wp_mono (hb n _ _ _ _ m a.tmps hR hf h) ?_
    intro ex a' w' hp
    cases ex with
    | normal =>
      obtain ⟨m', e', rfl, hd', hR', hf', hK⟩ := hp
      obtain ⟨x', hp', hl⟩ := toJoin_some hK
      exact ⟨n, Nat.lt_succ_self n, hd', x', pack_sound hR' hp', hl⟩
    | exit i =>
      obtain ⟨m', e', rfl, hd', hR', hf', hK⟩ := hp
      simp only at hK
      cases hi : Nat.beq i id with
      | false => simp [hi] at hK
      | true =>
        simp only [hi] at hK
        have := Nat.eq_of_beq_eq_true hi
        subst this
        obtain ⟨y', hp', hl⟩ := toJoin_some hK
        simp only [Exit.then, Exit.inBlock, if_pos]
        rw [act_eta hd']
        exact hQ y' (Option.some.inj hl).symm _ _ (pack_sound hR' hp')
    | ret =>
      obtain ⟨m', e', z, rfl, hd', hR', hz, he⟩ := hp
      simp only [Exit.then, Exit.inBlock]
      rw [act_eta hd']
      exact hQr z (Option.some.inj he).symm m' e' _ hR' hz
    | _ => exact hp.elim

theorem loop_sound {id : Nat} {body : Code} (ih : ∀ k, Sound P w0 G0 N fin body (fun ι e K => evCode Γ Δ A fin body k ι e K)) (k : Nat) : Sound P w0 G0 N fin (.block id (.loop body)) (fun ι e K => evCode Γ Δ A fin (.block id (.loop body)) k ι e K) := by
    intro σ ι K e r m tm hR hf h
    simp only [evCode] at h
    cases hl : find A.loops id with
    | none => simp [hl] at h
    | some p =>
      obtain ⟨its, j⟩ := p
      simp only [hl] at h
      obtain ⟨x, hp, h⟩ := toJoin_some h
      cases hq : j.quiet with
      | true =>
        rw [hq] at h
        simp only at h
        obtain ⟨y, h1, h2⟩ := bnd_some h
        refine loopQ_sound (fun k => ih k) (pack_sound hR hp) h1 ?_
        intro tm' w' hpk
        obtain ⟨m2, hw, hR2, hf2⟩ := unpack_sound hpk
        exact ⟨m2, _, hw, rfl, hR2, hf2, h2⟩
      | false =>
        rw [hq] at h
        simp only at h
        obtain ⟨y, h1, h2⟩ := bnd_some h
        refine loopR_sound (fun k => ih k) (pack_sound hR hp) h1 ?_ ?_
        · intro z hz tm' w' hpk
          subst hz
          obtain ⟨m2, hw, hR2, hf2⟩ := unpack_sound hpk
          exact ⟨m2, _, hw, rfl, hR2, hf2, h2⟩
        · intro z hz m2 e2 tm' hR2 hfin
          subst hz
          exact ⟨m2, e2, z, rfl, rfl, hR2, hfin, h2⟩

theorem code_sound (hΓ : TabOk P Γ) (hΔ : DelOk P w0.o Δ) (hD : DrawSound P w0.o Γ Δ) : ∀ (c : Code), codeDst w0.ps N c = true → ∀ k, Sound P w0 G0 N fin c (fun ι e K => evCode Γ Δ A fin c k ι e K)
  | .skip, hc, k, σ, ι, K, e, r, m, tm, hR, hf, h => wp_skip ⟨m, e, rfl, rfl, hR, hf, h⟩
  | .exit id, hc, k, σ, ι, K, e, r, m, tm, hR, hf, h => wp_exit ⟨m, e, rfl, rfl, hR, hf, h⟩
  | .ret, hc, k, σ, ι, K, e, r, m, tm, hR, hf, h => by
    simp only [evCode] at h
    cases hz : fin e with
    | none => simp [hz] at h
    | some z =>
      simp only [hz] at h
      exact wp_ret ⟨m, e, z, rfl, rfl, hR, hz, h⟩
  | .region id ops d, hc, k, σ, ι, K, e, r, m, tm, hR, hf, h => by
    simp only [evCode] at h
    simp only [codeDst] at hc
    cases d with
    | false =>
      simp only at h
      exact wp_region_list (ops_sound hΓ hΔ rfl (fun m' e' tm' hR' hf' hK => ⟨m', e', rfl, rfl, hR', hf', hK⟩) _ m e tm (allDst_mem hc) hR hf h)
    | true =>
      simp only at h
      cases hs : slotsOk ops.toList (ancs 0 ops.toList []) 0 ops.toList with
      | false => simp [hs] at h
      | true =>
        simp only [hs] at h
        exact hD rfl (allDst_mem hc) hs hR hf h fun m' e' tm' hR' hf' hK => ⟨m', e', rfl, rfl, hR', hf', hK⟩
  | .seq a b, hc, k, σ, ι, K, e, r, m, tm, hR, hf, h => by
    simp only [codeDst] at hc
    obtain ⟨hca, hcb⟩ := both hc
    have iha : ∀ k, Sound P w0 G0 N fin a (fun ι e K => evCode Γ Δ A fin a k ι e K) := fun k {σ} ι K e r m tm => code_sound hΓ hΔ hD a hca k ι K e r m tm
    have ihb : ∀ k, Sound P w0 G0 N fin b (fun ι e K => evCode Γ Δ A fin b k ι e K) := fun k {σ} ι K e r m tm => code_sound hΓ hΔ hD b hcb k ι K e r m tm
    simp only [evCode] at h
    refine wp_seq ?_
    split at h
    · rename_i j hj
      unfold meet at h
      cases hq : j.quiet with
      | true =>
        rw [hq] at h
        simp only at h
        obtain ⟨y, h1, h2⟩ := bnd_some h
        refine wp_mono (iha k _ _ _ _ m tm hR hf h1) ?_
        intro ex a' w' hp
        cases ex with
        | normal =>
          obtain ⟨m', e', rfl, hd', hR', hf', hK⟩ := hp
          obtain ⟨y', hp', hl⟩ := toJoin_some hK
          obtain rfl := Option.some.inj hl
          obtain ⟨m2, hw, hR2, hf2⟩ := unpack_sound (pack_sound hR' hp')
          simp only [Exit.then]
          rw [act_eta hd', ← hw]
          exact ihb k _ _ _ _ m2 _ hR2 hf2 h2
        | exit i =>
          obtain ⟨m', e', _, _, _, _, hK⟩ := hp
          simp at hK
        | ret =>
          obtain ⟨m', e', z, _, _, _, _, hz⟩ := hp
          simp at hz
        | _ => exact hp.elim
      | false =>
        rw [hq] at h
        simp only at h
        obtain ⟨y, h1, h2⟩ := bnd_some h
        refine wp_mono (iha k _ _ _ _ m tm hR hf h1) ?_
        intro ex a' w' hp
        cases ex with
        | normal =>
          obtain ⟨m', e', rfl, hd', hR', hf', hK⟩ := hp
          obtain ⟨y', hp', hl⟩ := toJoin_some hK
          obtain rfl := Option.some.inj hl
          obtain ⟨m2, hw, hR2, hf2⟩ := unpack_sound (pack_sound hR' hp')
          simp only [Exit.then]
          rw [act_eta hd', ← hw]
          exact ihb k _ _ _ _ m2 _ hR2 hf2 h2
        | exit i =>
          obtain ⟨m', e', _, _, _, _, hK⟩ := hp
          simp at hK
        | ret =>
          obtain ⟨m', e', z, rfl, hd', hR', hz, he⟩ := hp
          obtain rfl := Option.some.inj he
          exact ⟨m', e', z, rfl, hd', hR', hz, h2⟩
        | _ => exact hp.elim
    · refine wp_mono (iha k _ _ _ _ m tm hR hf h) ?_
      intro ex a' w' hp
      cases ex with
      | normal =>
        obtain ⟨m', e', rfl, hd', hR', hf', hK⟩ := hp
        simp only [Exit.then]
        rw [act_eta hd']
        exact ihb k _ _ _ _ m' _ hR' hf' hK
      | exit i => exact hp
      | ret => exact hp
      | _ => exact hp.elim
  | .cond c a b, hc, k, σ, ι, K, e, r, m, tm, hR, hf, h => by
    simp only [codeDst] at hc
    obtain ⟨hca, hcb⟩ := both hc
    simp only [evCode] at h
    cases hx : e.one c with
    | none => simp [hx] at h
    | some v =>
      have hl := one_lv (a := ⟨tm, []⟩) hR hx
      cases v with
      | b x =>
        simp only [hx] at h
        simp only [Lv] at hl
        cases x with
        | true => exact wp_cond_true hl (code_sound hΓ hΔ hD a hca k _ _ _ _ m tm hR hf h)
        | false => exact wp_cond_false hl (code_sound hΓ hΔ hD b hcb k _ _ _ _ m tm hR hf h)
      | _ => simp [hx] at h
  | .block id (.loop body), hc, k, σ, ι, K, e, r, m, tm, hR, hf, h => by
    simp only [codeDst] at hc
    have ih : ∀ k, Sound P w0 G0 N fin body (fun ι e K => evCode Γ Δ A fin body k ι e K) := fun k {σ} ι K e r m tm => code_sound hΓ hΔ hD body hc k ι K e r m tm
    exact loop_sound ih k ι K e r m tm hR hf h
  | .block id body, hc, k, σ, ι, K, e, r, m, tm, hR, hf, h => by
    have hcb : codeDst w0.ps N body = true := hc
    have ih : ∀ k, Sound P w0 G0 N fin body (fun ι e K => evCode Γ Δ A fin body k ι e K) := fun k {σ} ι K e r m tm => code_sound hΓ hΔ hD body hcb k ι K e r m tm
    have h' : (∃ b, body = .loop b) ∨ evCode Γ Δ A fin body k ι e (fun ex e' => match ex with
        | .normal => K .normal e'
        | .exit i => match Nat.beq i id with
          | true => K .normal e'
          | false => K (.exit i) e') = some r := by
      cases body <;> first
        | exact .inl ⟨_, rfl⟩
        | (right; simp only [evCode] at h; exact h)
    rcases h' with ⟨b, rfl⟩ | h'
    · exact loop_sound (fun k {σ} ι K e r m tm => code_sound hΓ hΔ hD b (by simp only [codeDst] at hcb; exact hcb) k ι K e r m tm) k ι K e r m tm hR hf h
    · refine wp_block (wp_mono (ih k _ _ _ _ m tm hR hf h') ?_)
      intro ex a' w' hp
      cases ex with
      | normal => exact hp
      | exit i =>
        obtain ⟨m', e', rfl, hd', hR', hf', hK⟩ := hp
        simp only at hK
        simp only [Exit.inBlock]
        cases hi : Nat.beq i id with
        | true =>
          have := Nat.eq_of_beq_eq_true hi
          simp only [hi] at hK
          rw [if_pos this]
          exact ⟨m', e', rfl, hd', hR', hf', hK⟩
        | false =>
          have hne : ¬ i = id := fun q => by subst q; simp at hi
          simp only [hi] at hK
          rw [if_neg hne]
          exact ⟨m', e', rfl, hd', hR', hf', hK⟩
      | ret => exact hp
      | _ => exact hp.elim
  | .loop c, hc, k, σ, ι, K, e, r, m, tm, hR, hf, h => by simp [evCode] at h
  | .scope c, hc, k, σ, ι, K, e, r, m, tm, hR, hf, h => by simp [evCode] at h
  | .label l, hc, k, σ, ι, K, e, r, m, tm, hR, hf, h => by simp [evCode] at h
  | .goto l, hc, k, σ, ι, K, e, r, m, tm, hR, hf, h => by simp [evCode] at h
end
end Go.Ev
end

section
/- What an operation comes to, apart from what becomes of it. -/
set_option linter.unusedSimpArgs false
set_option linter.unusedVariables false
namespace Go.Ev

section
variable {ρ : Type} {Γ : Tab} {Δ : List (Nat × Con)} {k : Nat}

abbrev pr (v : SV) (e : Env) : Option (SV × Env) := some (v, e)
theorem chk_bind {α β : Type} (b : Bool) (x : Option α) (f : α → Option β) : (chk b x).bind f = chk b (x.bind f) := by cases b <;> rfl
theorem br_bind {α β : Type} (b : Bool) (x y : Option α) (f : α → Option β) : (br b x y).bind f = br b (x.bind f) (y.bind f) := by cases b <;> rfl
theorem bnd_bind {α β γ : Type} (x : Option α) (g : α → Option β) (f : β → Option γ) : (bnd x g).bind f = bnd x fun y => (g y).bind f := by cases x <;> rfl

theorem evInt_nat (op : BinOp) (q : IntKind) (a b : Int) (K : SV → Option ρ) : evInt op q a b K = (evInt op q a b some).bind K := by
  cases op <;> simp only [evInt, chk_bind, Option.bind_some, Option.bind_none]
theorem evStr_nat (op : BinOp) (a b : List UInt8) (K : SV → Option ρ) : evStr op a b K = (evStr op a b some).bind K := by
  cases op <;> simp only [evStr, chk_bind, Option.bind_some, Option.bind_none]
theorem evBin_nat (u : Ty) (op : BinOp) (x y : SV) (K : SV → Option ρ) : evBin u op x y K = (evBin u op x y some).bind K := by
  unfold evBin
  split
  · split
    · simp only [chk_bind, Option.bind_some]
    · simp only [chk_bind, Option.bind_some]
    · split
      · exact evInt_nat _ _ _ _ _
      · rfl
  · split
    · split <;> rfl
    · rfl
  · exact evStr_nat _ _ _ _
  · split
    · split
      · split <;> rfl
      · split <;> rfl
      · rfl
    · rfl
  · rfl
theorem evUn_nat (op : UnOp) (x : V) (K : SV → Option ρ) : evUn op x K = (evUn op x some).bind K := by
  unfold evUn
  split <;> rfl
theorem evIndexAddr_nat (u : Ty) (s : V) (n : Int) (e : Env) (K : SV → Option ρ) : evIndexAddr u s n e K = (evIndexAddr u s n e some).bind K := by
  unfold evIndexAddr
  repeat' split
  all_goals first | rfl | simp only [chk_bind, Option.bind_some]
theorem evSliceN_nat (t : Ty) (xs : List t.den) (lo hi : Option Int) (K : SV → Option ρ) : evSliceN t xs lo hi K = (evSliceN t xs lo hi some).bind K := by
  unfold evSliceN
  split <;> simp only [chk_bind, Option.bind_some]
theorem evSliceS_nat (s : List UInt8) (lo hi : Option Int) (K : SV → Option ρ) : evSliceS s lo hi K = (evSliceS s lo hi some).bind K := by
  unfold evSliceS
  split <;> simp only [chk_bind, Option.bind_some]
theorem evSliceR_nat (id sz lo len : Nat) (l h : Option Int) (K : SV → Option ρ) : evSliceR id sz lo len l h K = (evSliceR id sz lo len l h some).bind K := by
  unfold evSliceR
  split <;> simp only [chk_bind, Option.bind_some]
/-- from a value to a value and the environment -/
theorem with_env {x : Option SV} (e : Env) (K : SV → Env → Option ρ) : (x.bind fun v => K v e) = (x.bind fun v => pr v e).bind fun p => K p.1 p.2 := by cases x <;> rfl
theorem evSlice_nat (u : Ty) (x : V) (lo hi : Option Operand) (e : Env) (K : SV → Env → Option ρ) : evSlice u x lo hi e K = (evSlice u x lo hi e pr).bind fun p => K p.1 p.2 := by
  unfold evSlice
  repeat' split
  all_goals first
    | rfl
    | (rw [evSliceS_nat, evSliceS_nat _ _ _ (fun v => pr v e)]; exact with_env _ _)
    | (rw [evSliceN_nat, evSliceN_nat _ _ _ _ (fun v => pr v e)]; exact with_env _ _)
    | (rw [evSliceR_nat, evSliceR_nat _ _ _ _ _ _ (fun v => pr v e)]; exact with_env _ _)
theorem evLoad_nat (T : Nat) (a : V) (e : Env) (K : SV → Env → Option ρ) : evLoad Γ T a e K = (evLoad Γ T a e pr).bind fun p => K p.1 p.2 := by
  unfold evLoad
  repeat' split
  all_goals rfl
theorem evStore_nat (T : Nat) (a : V) (v : SV) (e : Env) (K : SV → Env → Option ρ) : evStore Γ T a v e K = (evStore Γ T a v e pr).bind fun p => K p.1 p.2 := by
  unfold evStore
  repeat' split
  all_goals first
    | rfl
    | (rw [bnd_bind]; congr 1; funext x0; repeat' split
       all_goals first | rfl | (rw [bnd_bind]; rfl))
theorem evAppendTo_nat (T : Nat) (t : Ty) (ys : List t.den) (s : V) (e : Env) (K : SV → Env → Option ρ) : evAppendTo T t ys s e K = (evAppendTo T t ys s e pr).bind fun p => K p.1 p.2 := by
  unfold evAppendTo
  repeat' split
  all_goals first | rfl | simp only [chk_bind, Option.bind_some]
theorem evAppend_nat (T : Nat) (s x : V) (e : Env) (K : SV → Env → Option ρ) : evAppend Γ T s x e K = (evAppend Γ T s x e pr).bind fun p => K p.1 p.2 := by
  unfold evAppend
  repeat' split
  all_goals first | with_reducible rfl | with_reducible exact evAppendTo_nat _ _ _ _ _ _ | (simp only [chk_bind, Option.bind_some]; done) | rfl
theorem evAppendN_nat (T : Nat) (x : V) (e : Env) (K : SV → Env → Option ρ) : evAppendN Γ T x e K = (evAppendN Γ T x e pr).bind fun p => K p.1 p.2 := by
  unfold evAppendN
  repeat' split
  all_goals first | with_reducible rfl | with_reducible exact evAppendTo_nat _ _ _ _ _ _ | (simp only [chk_bind, Option.bind_some]; done) | rfl
theorem evConv_nat (src dst : Ty) (x : V) (e : Env) (K : SV → Env → Option ρ) : evConv src dst x e K = (evConv src dst x e pr).bind fun p => K p.1 p.2 := by
  unfold evConv
  repeat' split
  all_goals rfl
theorem backG_nat (lim : Nat) (c : Con) (vs : List SV) (os : List (Nat × Obj)) (n : Nat) (e : Env) (y : den1 c.res) (K : SV → Env → Option ρ) : backG lim c vs os n e y K = (backG lim c vs os n e y pr).bind fun p => K p.1 p.2 := by
  unfold backG
  split
  · simp only
    split <;> rfl
  · rfl
theorem evCallG_nat (lim : Nat) (c : Con) (vs : List SV) (e : Env) (K : SV → Env → Option ρ) : evCallG k lim c vs e K = (evCallG k lim c vs e pr).bind fun p => K p.1 p.2 := by
  unfold evCallG
  repeat' split
  all_goals first
    | rfl
    | (rw [bnd_bind]; congr 1; funext y; exact backG_nat _ _ _ _ _ _ _ _)
theorem evCall_nat (f : Nat) (vs : List SV) (e : Env) (K : SV → Env → Option ρ) : ∀ (Δ : List (Nat × Con)), evCall k f vs e K Δ = (evCall k f vs e pr Δ).bind fun p => K p.1 p.2
  | [] => rfl
  | (g, c) :: r => by
    have ih := evCall_nat f vs e K r
    simp only [evCall]
    cases Nat.beq f g with
    | false => exact ih
    | true =>
      simp only
      cases c.gen with
      | true => exact evCallG_nat _ _ _ _ _
      | false =>
      simp only
      cases flatAll c.res with
      | true =>
        simp only
        cases bindArgs false e.objs c.args vs with
        | none => exact ih
        | some x => simp only [bnd_bind, Option.bind_some]
      | false =>
        simp only
        cases bindArgs true (e.freeze (reachAll e.objs vs)).objs c.args vs with
        | none => exact ih
        | some x => simp only [bnd_bind, Option.bind_some]
theorem evBuiltin_nat (b : Builtin) (kd : Bool) (ts : List Nat) (vs : List SV) (e : Env) (K : SV → Env → Option ρ) : evBuiltin Γ b kd ts vs e K = (evBuiltin Γ b kd ts vs e pr).bind fun p => K p.1 p.2 := by
  unfold evBuiltin
  repeat' split
  all_goals first | with_reducible rfl | with_reducible exact evAppend_nat _ _ _ _ _ | with_reducible exact evAppendN_nat _ _ _ _ | rfl

theorem evIndexArr_nat (ti : TI) (v : SV) (n : Int) (e : Env) (K : SV → Env → Option ρ) : evIndexArr Γ ti v n e K = (evIndexArr Γ ti v n e pr).bind fun p => K p.1 p.2 := by
  unfold evIndexArr
  repeat' split
  all_goals first | rfl | simp only [chk_bind, Option.bind_some]
theorem evSort_nat (f T id h : Nat) (cs : List Cap) (e : Env) (K : SV → Env → Option ρ) : evSort Γ Δ k f T id h cs e K = (evSort Γ Δ k f T id h cs e pr).bind fun p => K p.1 p.2 := by
  unfold evSort
  repeat' split
  all_goals first | rfl | simp only [chk_bind, bnd_bind, Option.bind_some]
theorem evOp_nat (o : Op) (e : Env) (K : SV → Env → Option ρ) : evOp Γ Δ k o e K = (evOp Γ Δ k o e pr).bind fun p => K p.1 p.2 := by
  cases o with
  | move x => simp only [evOp]; split <;> rfl
  | assign x => simp only [evOp]; split <;> rfl
  | pick c a b =>
    simp only [evOp]
    split
    · rw [br_bind]
      congr 1 <;> (split <;> rfl)
    · rfl
  | alloc T => simp only [evOp]; split <;> rfl
  | box T x =>
    simp only [evOp]
    repeat' split
    all_goals rfl
  | makeInterface T x =>
    simp only [evOp]
    repeat' split
    all_goals rfl
  | build T ps =>
    simp only [evOp]
    repeat' split
    all_goals rfl
  | buildSlice T n ps =>
    simp only [evOp]
    repeat' split
    all_goals rfl
  | load T a =>
    simp only [evOp]
    split
    · exact evLoad_nat _ _ _ _
    · rfl
  | store T a x =>
    simp only [evOp]
    split
    · split
      · rfl
      · exact evStore_nat _ _ _ _ _
    · rfl
  | nilCheck x => simp only [evOp]; split <;> rfl
  | binOp op T x y yT =>
    simp only [evOp]
    split
    · split
      · rfl
      · rw [evBin_nat, evBin_nat _ _ _ _ (fun v => pr v e)]; exact with_env _ _
    · rfl
  | unOp op T x =>
    simp only [evOp]
    split
    · rw [evUn_nat, evUn_nat _ _ (fun v => pr v e)]; exact with_env _ _
    · rfl
  | convert s d x =>
    simp only [evOp]
    split
    · exact evConv_nat _ _ _ _ _
    · rfl
  | makeFunc fn first caps =>
    cases fn <;> simp only [evOp] <;> first | rfl | (split <;> rfl)
  | makeSlice T l c =>
    simp only [evOp]
    repeat' split
    all_goals first | rfl | simp only [chk_bind, Option.bind_some]
  | slice T x lo hi mx =>
    cases mx with
    | some => simp only [evOp]; rfl
    | none =>
      simp only [evOp]
      split
      · exact evSlice_nat _ _ _ _ _ _
      · rfl
  | fieldAddr T x i =>
    simp only [evOp]
    repeat' split
    all_goals rfl
  | indexAddr T x i =>
    simp only [evOp]
    split
    · rw [evIndexAddr_nat, evIndexAddr_nat _ _ _ _ (fun v => pr v e)]; exact with_env _ _
    · rfl
  | index T x i =>
    simp only [evOp]
    repeat' split
    all_goals first | rfl | exact evIndexArr_nat _ _ _ _ _ | simp only [chk_bind, Option.bind_some]
  | extract x i =>
    simp only [evOp]
    repeat' split
    all_goals rfl
  | call c =>
    obtain ⟨callee, args, ts⟩ := c
    cases callee with
    | builtin b =>
      simp only [evOp]
      split
      · exact evBuiltin_nat _ _ _ _ _ _
      · rfl
    | value f =>
      simp only [evOp]
      split
      · split
        · exact evSort_nat _ _ _ _ _ _ _
        · exact evCall_nat _ _ _ _ _
      · rfl
    | invoke r n => simp only [evOp]; rfl
  | _ => simp only [evOp]; rfl
end
end Go.Ev
end
