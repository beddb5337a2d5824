/- Packing. -/
import Derived.Test.YticlnmiakaelkaaEvPack
set_option linter.unusedSimpArgs false
set_option linter.unusedVariables false
namespace Go.Ev
open Go.RowKit (Below)

theorem memN_iff : ∀ (l : List Nat) (n : Nat), memN l n = true ↔ n ∈ l
  | [], n => by simp [memN]
  | a :: r, n => by
    simp only [memN]
    cases h : Nat.beq a n with
    | true => have := Nat.eq_of_beq_eq_true h; subst this; simp
    | false =>
      have hne : ¬ n = a := fun q => by subst q; simp at h
      simp [memN_iff r n, hne]
theorem nodupN_nodup : ∀ (l : List Nat), nodupN l = true → l.Nodup
  | [], _ => List.nodup_nil
  | a :: r, h => by
    simp only [nodupN] at h
    cases hm : memN r a with
    | true => simp [hm] at h
    | false =>
      simp only [hm] at h
      refine List.nodup_cons.2 ⟨fun hx => ?_, nodupN_nodup r h⟩
      rw [(memN_iff r a).2 hx] at hm
      cases hm
theorem find_eraseAll : ∀ (l : List Nat) (os : List (Nat × Obj)) (i : Nat), find (eraseAll l os) i = if i ∈ l then none else find os i
  | [], os, i => by simp [eraseAll]
  | a :: r, os, i => by
    simp only [eraseAll]
    rw [find_eraseAll r, find_erase (α := Nat)]
    by_cases h1 : i ∈ r
    · simp [h1]
    · by_cases h2 : a = i
      · subst h2; simp [h1]
      · have : ¬ i = a := fun q => h2 q.symm
        simp [h1, h2, this]
theorem ownIdsV_append (own : List (Nat × Nat)) : ∀ (a b : List V) (n : Nat), ownIdsV own n (a ++ b) = ownIdsV own n a ++ ownIdsV own (n + a.length) b
  | [], b, n => by simp [ownIdsV]
  | v :: a, b, n => by
    have ih := ownIdsV_append own a b (n + 1)
    have e : n + (v :: a).length = n + 1 + a.length := by simp; omega
    rw [e, List.cons_append]
    cases v <;> simp only [ownIdsV] <;> first | exact ih | (split <;> simp [ih])
theorem nodup_filterMap {f : Nat → Option Nat} : ∀ (l : List Nat), l.Nodup → (∀ i ∈ l, ∀ j ∈ l, ∀ b, f i = some b → f j = some b → i = j) → (l.filterMap f).Nodup
  | [], _, _ => by simp
  | a :: r, hn, h => by
    have hn' := List.nodup_cons.1 hn
    have ih := nodup_filterMap r hn'.2 fun i hi j hj => h i (List.mem_cons_of_mem _ hi) j (List.mem_cons_of_mem _ hj)
    rw [List.filterMap_cons]
    cases ha : f a with
    | none => exact ih
    | some b =>
      simp only
      refine List.nodup_cons.2 ⟨fun hm => ?_, ih⟩
      obtain ⟨j, hj, hb⟩ := List.mem_filterMap.1 hm
      have := h a List.mem_cons_self j (List.mem_cons_of_mem _ hj) b ha hb
      subst this
      exact hn'.1 hj

section
variable {P : Program} {w0 : World} {G0 : Nat → Prop} {N : Nat} {m : St} {e : Env} {tm : Array Value} {os ov : List (Nat × Obj)} {own : List (Nat × Nat)} {G H : Nat → Prop}

theorem decOwn_sound (ho : ∀ i o, find os i = some o → Ob m i o) (hov : ∀ i o, find ov i = some o → Ob m i o) (hG : ∀ b, m.G b → G b)
    (hR : ∀ i T u xs a n c, find ov i = some (.row T u xs) → m.ν i = .slice (some a) n c → G a.block) :
    ∀ (t : Ty) (n : Nat) (vs : List V) (x : t.den) (r : List V) (cs : List Value), decOwn os ov own t n vs = some (x, r) → R2 (Lv m) vs cs →
      ∃ vs1 c1 c2, vs = vs1 ++ r ∧ cs = c1 ++ c2 ∧ vs1.length = t.size ∧ OwnCells m.w G own t n x c1 ((ownIdsV own n vs1).filterMap (blk os m)) ∧ R2 (Lv m) r c2
  | .int k, n, vs, x, r, cs, h, hl => by
    simp only [decOwn] at h
    obtain ⟨c1, c2, e1, h1, h2⟩ := dec_val (st := false) hov hG (fun _ => hR) (.int k) vs x r cs h hl
    cases vs with
    | nil => simp [dec] at h
    | cons v l =>
      cases v with
      | i j y =>
        simp only [dec] at h
        cases hk : kEq k j with
        | false => simp [hk] at h
        | true =>
          simp only [hk, Option.some.injEq, Prod.mk.injEq] at h
          obtain ⟨_, rfl⟩ := h
          exact ⟨[_], c1, c2, rfl, e1, rfl, ⟨h1, rfl⟩, h2⟩
      | _ => simp [dec] at h
  | .bool, n, vs, x, r, cs, h, hl => by
    simp only [decOwn] at h
    obtain ⟨c1, c2, e1, h1, h2⟩ := dec_val (st := false) hov hG (fun _ => hR) .bool vs x r cs h hl
    cases vs with
    | nil => simp [dec] at h
    | cons v l =>
      cases v with
      | b y =>
        simp only [dec, Option.some.injEq, Prod.mk.injEq] at h
        obtain ⟨_, rfl⟩ := h
        exact ⟨[_], c1, c2, rfl, e1, rfl, ⟨h1, rfl⟩, h2⟩
      | _ => simp [dec] at h
  | .str, n, vs, x, r, cs, h, hl => by
    simp only [decOwn] at h
    obtain ⟨c1, c2, e1, h1, h2⟩ := dec_val (st := false) hov hG (fun _ => hR) .str vs x r cs h hl
    cases vs with
    | nil => simp [dec] at h
    | cons v l =>
      cases v with
      | s y =>
        simp only [dec, Option.some.injEq, Prod.mk.injEq] at h
        obtain ⟨_, rfl⟩ := h
        exact ⟨[_], c1, c2, rfl, e1, rfl, ⟨h1, rfl⟩, h2⟩
      | _ => simp [dec] at h
  | .unit, n, vs, x, r, cs, h, hl => by
    simp only [decOwn, dec, Option.some.injEq, Prod.mk.injEq] at h
    obtain ⟨_, rfl⟩ := h
    exact ⟨[], [], cs, rfl, rfl, rfl, ⟨rfl, rfl⟩, hl⟩
  | .pair a b, n, vs, x, r, cs, h, hl => by
    simp only [decOwn] at h
    cases h1 : decOwn os ov own a n vs with
    | none => simp [h1] at h
    | some p =>
      obtain ⟨x1, r1⟩ := p
      simp only [h1] at h
      cases h2 : decOwn os ov own b (n + a.size) r1 with
      | none => simp [h2] at h
      | some p =>
        obtain ⟨x2, r2⟩ := p
        simp only [h2, Option.some.injEq, Prod.mk.injEq] at h
        obtain ⟨rfl, rfl⟩ := h
        obtain ⟨v1, c1, c2, rfl, rfl, l1, o1, q1⟩ := decOwn_sound ho hov hG hR a n vs x1 r1 cs h1 hl
        obtain ⟨v2, c3, c4, rfl, rfl, l2, o2, q2⟩ := decOwn_sound ho hov hG hR b (n + a.size) _ x2 r2 c2 h2 q1
        refine ⟨v1 ++ v2, c1 ++ c3, c4, by simp, by simp, by simp [l1, l2, Ty.size], ⟨c1, c3, _, _, rfl, ?_, o1, o2⟩, q2⟩
        rw [ownIdsV_append, List.filterMap_append, l1]
  | .sl t, n, vs, x, r, cs, h, hl => by
    cases vs with
    | nil => simp [decOwn, dec] at h
    | cons v l =>
      cases cs with
      | nil => exact absurd hl (by simp [R2])
      | cons c cs =>
        simp only [decOwn] at h
        cases hT : ownT own n with
        | none =>
          rw [hT] at h
          simp only at h
          obtain ⟨c1, c2, e1, h1, h2⟩ := dec_val (st := false) hov hG (fun _ => hR) (.sl t) (v :: l) x r (c :: cs) h hl
          have hlen := h2.length
          have hl1 := hl.length
          have hc1 := h1.length
          have hr : r = l := by
            cases v <;> simp only [dec] at h <;> first
              | (simp at h; done)
              | (split at h <;> first | (simp at h; done) | (simp only [Option.some.injEq, Prod.mk.injEq] at h; exact h.2.symm) | (split at h <;> first | (simp at h; done) | (simp only [Option.some.injEq, Prod.mk.injEq] at h; exact h.2.symm)))
              | (simp only [Option.some.injEq, Prod.mk.injEq] at h; exact h.2.symm)
          subst hr
          refine ⟨[v], c1, c2, rfl, e1, rfl, ?_, h2⟩
          unfold OwnCells
          rw [hT]
          refine ⟨h1, ?_⟩
          cases v <;> simp [ownIdsV, hT]
        | some T =>
          rw [hT] at h
          simp only at h
          cases hr : ownRow os T t v with
          | none => simp [hr] at h
          | some xs =>
            simp only [hr, Option.some.injEq, Prod.mk.injEq] at h
            obtain ⟨rfl, rfl⟩ := h
            refine ⟨[v], [c], cs, rfl, rfl, rfl, ?_, hl.2⟩
            unfold OwnCells
            rw [hT]
            have hlv := hl.1
            cases v with
            | nil =>
              simp only [ownRow, Option.some.injEq] at hr
              subst hr
              simp only [Lv] at hlv
              subst hlv
              exact ⟨_, rfl, .inl ⟨rfl, rfl⟩, rfl⟩
            | row id =>
              simp only [ownRow] at hr
              obtain ⟨_, e1, _⟩ := hlv
              cases hf : find os id with
              | none => simp [hf] at hr
              | some o =>
                cases o with
                | row U u ys =>
                  simp only [hf] at hr
                  cases hU : Nat.beq U T with
                  | false => simp [hU] at hr
                  | true =>
                    simp only [hU] at hr
                    have := Nat.eq_of_beq_eq_true hU
                    subst this
                    obtain ⟨e2, e3⟩ := cast?_some hr
                    cases e2
                    subst e3
                    have hob := ho id _ hf
                    refine ⟨c, rfl, ?_, ?_⟩
                    · rw [e1]
                      exact RowAt.mono (fun b hb => ⟨hG b hb, rfl⟩) hob fun _ _ _ _ => rfl
                    · rw [e1]
                      simp only [ownIdsV, hT, List.filterMap_cons, List.filterMap_nil, blk, hf]
                      cases (m.ν id).ownBlock <;> rfl
                | _ => simp [hf] at hr
            | _ => simp [ownRow] at hr

theorem bindCaps_capsH (ho : ∀ i o, find os i = some o → Ob m i o) (hG : ∀ b, m.G b → G b) (hH : ∀ b, m.H b → H b)
    (hR : ∀ i T u xs a n c, find os i = some (.row T u xs) → m.ν i = .slice (some a) n c → G a.block) (hV : ∀ i vs, find os i = some (.var vs) → H (m.β i)) :
    ∀ (ts : List Ty) (cs : List Cap) (x : dens ts) (l : List Value), bindCaps false os ts cs = some x → R2 (Cp m) cs l → CapsH m.w G H ts x l
  | [], [], x, l, h, hl => by
    cases l with
    | nil => rfl
    | cons => exact absurd hl (by simp [R2])
  | t :: r, c :: cs, x, l, h, hl => by
    cases l with
    | nil => exact absurd hl (by simp [R2])
    | cons v l =>
      obtain ⟨h1, h2⟩ := hl
      simp only [bindCaps] at h
      cases hx : capTy false os t c with
      | none => simp [hx] at h
      | some y =>
        cases hy : bindCaps false os r cs with
        | none => simp [hx, hy] at h
        | some z =>
          simp only [hx, hy, Option.some.injEq] at h
          subst h
          refine ⟨?_, bindCaps_capsH ho hG hH hR hV r cs z l hy h2⟩
          cases c with
          | loc id =>
            simp only [capTy, varTy] at hx
            cases hf : find os id with
            | none => simp [hf] at hx
            | some o =>
              have hob := ho id o hf
              cases o with
              | var vs =>
                simp only [hf] at hx
                obtain ⟨ds, T, hh, hr⟩ := hob
                exact ⟨m.β id, 0, ds, h1.2, hV id vs hf, cells_of_heap hh, decCells_val ho hG (fun _ => hR) hx hr⟩
              | _ => simp [hf] at hx
          | el u z =>
            obtain ⟨b, o, ds, e1, hb, hc, hv⟩ := h1
            exact ⟨b, o, ds, e1, hH b hb, hc, Val.cast hx (Val.mono (fun b hb => ⟨hG b hb, rfl⟩) _ _ _ hv)⟩
  | [], _ :: _, x, l, h, hl => by simp [bindCaps] at h
  | _ :: _, [], x, l, h, hl => by simp [bindCaps] at h

theorem packItem_sound (hR : Rel w0 G0 N [] m e tm) (hov : ∀ i o, find ov i = some o → find e.objs i = some o) (hG : ∀ b, m.G b → G b) (hH : ∀ b, m.H b → H b)
    (hRow : ∀ i T u xs a n c, find ov i = some (.row T u xs) → m.ν i = .slice (some a) n c → G a.block) (hV : ∀ i vs, find ov i = some (.var vs) → H (m.β i))
    {a : Item} {x : a.den} (h : packItem e ov a = some x) : PkItem m.w G H tm a x ((ownIds e a).filterMap (blk e.objs m)) := by
  have hob : ∀ i o, find e.objs i = some o → Ob m i o := fun i o hf => (hR.obj i o hf).2
  have hobv : ∀ i o, find ov i = some o → Ob m i o := fun i o hf => hob i o (hov i o hf)
  cases a with
  | val s t =>
    simp only [packItem] at h
    cases hs : e.get s with
    | none => simp [hs] at h
    | some sv =>
      simp only [hs] at h
      obtain ⟨v, hv, hsv⟩ := hR.slots s sv hs
      obtain ⟨cs, h1, h2⟩ := decAll_val (st := false) hobv hG (fun _ => hRow) h hsv
      exact ⟨v, hv, ⟨cs, h1, h2⟩, rfl⟩
  | el s t =>
    simp only [packItem] at h
    cases hs : e.get s with
    | none => simp [hs] at h
    | some sv =>
      obtain ⟨v, hv, hsv⟩ := hR.slots s sv hs
      cases sv with
      | one y =>
        cases y with
        | el u z off =>
          cases off with
          | succ => simp [hs] at h
          | zero =>
            simp only [hs] at h
            obtain ⟨b, o, cs, e1, hb, hc, hval⟩ := hsv
            exact ⟨v, hv, ⟨b, o, cs, by simpa using e1, hH b hb, hc, Val.cast h (Val.mono (fun b hb => ⟨hG b hb, rfl⟩) _ _ _ hval)⟩, rfl⟩
        | _ => simp [hs] at h
      | _ => simp [hs] at h
  | clo s f ts =>
    simp only [packItem] at h
    cases hs : e.get s with
    | none => simp [hs] at h
    | some sv =>
      obtain ⟨v, hv, hsv⟩ := hR.slots s sv hs
      cases sv with
      | one y =>
        cases y with
        | clo g caps =>
          simp only [hs] at h
          cases hg : Nat.beq f g with
          | false => simp [hg] at h
          | true =>
            simp only [hg] at h
            have := Nat.eq_of_beq_eq_true hg
            subst this
            obtain ⟨cv, e1, hc⟩ := hsv
            subst e1
            exact ⟨cv, hv, bindCaps_capsH hobv hG hH hRow hV ts caps x cv h hc, rfl⟩
        | _ => simp [hs] at h
      | _ => simp [hs] at h
  | row s T t =>
    simp only [packItem] at h
    cases hs : e.get s with
    | none => simp [hs] at h
    | some sv =>
      obtain ⟨v, hv, hsv⟩ := hR.slots s sv hs
      cases sv with
      | one y =>
        simp only [hs] at h
        cases y with
        | nil =>
          simp only [ownRow, Option.some.injEq] at h
          subst h
          have : v = .slice none 0 0 := hsv
          subst this
          refine ⟨_, hv, .inl ⟨rfl, rfl⟩, ?_⟩
          simp [ownIds, hs, Value.ownBlock]
        | row id =>
          simp only [ownRow] at h
          obtain ⟨_, e1, _⟩ := hsv
          cases hf : find e.objs id with
          | none => simp [hf] at h
          | some o =>
            cases o with
            | row U u ys =>
              simp only [hf] at h
              cases hU : Nat.beq U T with
              | false => simp [hU] at h
              | true =>
                simp only [hU] at h
                have := Nat.eq_of_beq_eq_true hU
                subst this
                obtain ⟨e2, e3⟩ := cast?_some h
                cases e2
                subst e3
                refine ⟨v, hv, ?_, ?_⟩
                · rw [e1]
                  exact RowAt.mono (fun b hb => ⟨hG b hb, rfl⟩) (hob id _ hf) fun _ _ _ _ => rfl
                · rw [e1]
                  simp only [ownIds, hs, List.filterMap_cons, List.filterMap_nil, blk, hf]
                  cases (m.ν id).ownBlock <;> rfl
            | _ => simp [hf] at h
        | _ => simp [ownRow] at h
      | _ => simp [hs] at h
  | var s t own =>
    simp only [packItem] at h
    cases hs : e.get s with
    | none => simp [hs] at h
    | some sv =>
      obtain ⟨v, hv, hsv⟩ := hR.slots s sv hs
      cases sv with
      | one y =>
        cases y with
        | loc id off =>
          cases off with
          | succ => simp [hs] at h
          | zero =>
            simp only [hs] at h
            cases ho : e.obj id with
            | none => simp [ho] at h
            | some o =>
              cases o with
              | var vs =>
                simp only [ho] at h
                cases hd : decOwn e.objs ov own t 0 vs with
                | none => simp [hd] at h
                | some p =>
                  obtain ⟨z, r⟩ := p
                  cases r with
                  | cons => simp [hd] at h
                  | nil =>
                    simp only [hd, Option.some.injEq] at h
                    subst h
                    have ho' : find e.objs id = some (.var vs) := ho
                    obtain ⟨cs, T, hh, hr⟩ := hob id _ ho'
                    obtain ⟨vs1, c1, c2, e1, e2, _, h1, h2⟩ := decOwn_sound hob hobv hG hRow t 0 vs z [] cs hd hr
                    have hc2 : c2 = [] := by cases c2 with
                      | nil => rfl
                      | cons => exact absurd h2 (by simp [R2])
                    subst hc2
                    rw [List.append_nil] at e1 e2
                    subst e1; subst e2
                    obtain ⟨_, e3⟩ := hsv
                    subst e3
                    refine ⟨m.β id, cs, T, _, hv, hh, h1, ?_⟩
                    simp only [ownIds, hs, ho, List.filterMap_append, List.filterMap_cons, List.filterMap_nil, blk, ho']
              | _ => simp [ho] at h
        | _ => simp [hs] at h
      | _ => simp [hs] at h
theorem packAll_sound (hR : Rel w0 G0 N [] m e tm) (hov : ∀ i o, find ov i = some o → find e.objs i = some o) (hG : ∀ b, m.G b → G b) (hH : ∀ b, m.H b → H b)
    (hRow : ∀ i T u xs a n c, find ov i = some (.row T u xs) → m.ν i = .slice (some a) n c → G a.block) (hV : ∀ i vs, find ov i = some (.var vs) → H (m.β i)) :
    ∀ (l : List Item) (x : Items.den l), packAll e ov l = some x → PkAll m.w G H tm l x ((ownAll e l).filterMap (blk e.objs m))
  | [], x, h => rfl
  | [a], x, h => by
    simp only [packAll] at h
    have := packItem_sound hR hov hG hH hRow hV h
    simp only [ownAll, List.append_nil]
    exact this
  | a :: b :: r, x, h => by
    simp only [packAll] at h
    cases h1 : packItem e ov a with
    | none => simp [h1] at h
    | some y =>
      cases h2 : packAll e ov (b :: r) with
      | none => simp [h1, h2] at h
      | some z =>
        simp only [h1, h2, Option.some.injEq] at h
        subst h
        refine ⟨_, _, ?_, packItem_sound hR hov hG hH hRow hV h1, packAll_sound hR hov hG hH hRow hV (b :: r) z h2⟩
        rw [← List.filterMap_append]
        rfl

theorem pack_sound (hR : Rel w0 G0 N [] m e tm) {l : List Item} {y : Items.den l} (h : pack e l = some y) : Packed w0 G0 N m.w l y tm := by
  unfold pack at h
  cases hn : nodupN (ownAll e l) with
  | false => simp [hn] at h
  | true =>
    simp only [hn] at h
    have hnd := nodupN_nodup _ hn
    have hok : ObjsOk w0 G0 m e.objs := by have := hR.ok; rwa [List.append_nil] at this
    have hfo : ∀ i o, find (eraseAll (ownAll e l) e.objs) i = some o → i ∉ ownAll e l ∧ find e.objs i = some o := by
      intro i o hf
      rw [find_eraseAll] at hf
      by_cases hi : i ∈ ownAll e l
      · simp [hi] at hf
      · simp only [hi, if_false] at hf
        exact ⟨hi, hf⟩
    refine ⟨hR.tms, hok.base, fun b => m.G b ∨ ∃ i T t xs, find (eraseAll (ownAll e l) e.objs) i = some (.row T t xs) ∧ blk e.objs m i = some b,
      fun b => m.H b ∨ ∃ i o, find (eraseAll (ownAll e l) e.objs) i = some o ∧ blk e.objs m i = some b, _, packAll_sound hR (fun i o hf => (hfo i o hf).2) (fun b hb => .inl hb) (fun b hb => .inl hb) ?_ ?_ l y h, ?_, ?_, ?_, ?_, ?_, ?_⟩
    · intro i T u xs a n c hf hν
      exact .inr ⟨i, T, u, xs, hf, by simp [blk, (hfo i _ hf).2, hν, Value.ownBlock]⟩
    · intro i vs hf
      exact .inr ⟨i, _, hf, by simp [blk, (hfo i _ hf).2]⟩
    · exact nodup_filterMap _ hnd fun i _ j _ b h1 h2 => hok.inj i j b h1 h2
    · intro b hb
      obtain ⟨i, hi, hbk⟩ := List.mem_filterMap.1 hb
      obtain ⟨o1, o2, o3, o4⟩ := hok.out i b hbk
      refine ⟨fun hg => ?_, fun hg => ?_, o3, o4⟩
      · rcases hg with hg | ⟨j, T, t, xs, hf, hj⟩
        · exact o1 hg
        · have := hok.inj i j b hbk hj
          subst this
          exact (hfo i _ hf).1 hi
      · rcases hg with hg | ⟨j, o, hf, hj⟩
        · exact o2 hg
        · have := hok.inj i j b hbk hj
          subst this
          exact (hfo i _ hf).1 hi
    · intro b hb
      rcases hb with hb | ⟨j, T, t, xs, hf, hj⟩
      · exact hok.liveG b hb
      · exact (hok.out j b hj).2.2.1
    · intro b hb
      rcases hb with hb | ⟨j, o, hf, hj⟩
      · exact hok.liveH b hb
      · exact (hok.out j b hj).2.2.1
    · intro b hb
      rcases hb with hb | ⟨j, T, t, xs, hf, hj⟩
      · exact hok.subG b hb
      · exact .inr (hok.out j b hj).2.2.2
    · intro b hb
      rcases hb with hb | ⟨j, T, t, xs, hf, hj⟩
      · exact .inl (hok.gh b hb)
      · exact .inr ⟨j, _, hf, hj⟩
end
end Go.Ev
