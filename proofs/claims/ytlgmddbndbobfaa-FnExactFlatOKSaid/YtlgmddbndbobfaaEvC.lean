/- The evaluator and its soundness, part 3. -/
import Derived.Test.YtlgmddbndbobfaaEvB
import Derived.Test.YtlgmddbndbobfaaEvA
import Derived.Orders
section
/- Packing. -/
set_option linter.unusedSimpArgs false
set_option linter.unusedVariables false
namespace Go.Ev
open Go.RowKit (Below)

theorem memN_iff : ∀ (l : List Nat) (n : Nat), memN l n = true ↔ n ∈ l
  | [], n => by simp [memN]
  | a :: r, n => by
    simp only [memN]
    cases h : Nat.beq a n with
    | true => have := Nat.eq_of_beq_eq_true h; subst this; simp
    | false =>
      have hne : ¬ n = a := fun q => by subst q; simp at h
      simp [memN_iff r n, hne]
theorem nodupN_nodup : ∀ (l : List Nat), nodupN l = true → l.Nodup
  | [], _ => List.nodup_nil
  | a :: r, h => by
    simp only [nodupN] at h
    cases hm : memN r a with
    | true => simp [hm] at h
    | false =>
      simp only [hm] at h
      refine List.nodup_cons.2 ⟨fun hx => ?_, nodupN_nodup r h⟩
      rw [(memN_iff r a).2 hx] at hm
      cases hm
theorem find_eraseAll : ∀ (l : List Nat) (os : List (Nat × Obj)) (i : Nat), find (eraseAll l os) i = if i ∈ l then none else find os i
  | [], os, i => by simp [eraseAll]
  | a :: r, os, i => by
    simp only [eraseAll]
    rw [find_eraseAll r, find_erase (α := Nat)]
    by_cases h1 : i ∈ r
    · simp [h1]
    · by_cases h2 : a = i
      · subst h2; simp [h1]
      · have : ¬ i = a := fun q => h2 q.symm
        simp [h1, h2, this]
theorem ownIdsV_append (own : List (Nat × Nat)) : ∀ (a b : List V) (n : Nat), ownIdsV own n (a ++ b) = ownIdsV own n a ++ ownIdsV own (n + a.length) b
  | [], b, n => by simp [ownIdsV]
  | v :: a, b, n => by
    have ih := ownIdsV_append own a b (n + 1)
    have e : n + (v :: a).length = n + 1 + a.length := by simp; omega
    rw [e, List.cons_append]
    cases v <;> simp only [ownIdsV] <;> first | exact ih | (split <;> simp [ih])
theorem nodup_filterMap {f : Nat → Option Nat} : ∀ (l : List Nat), l.Nodup → (∀ i ∈ l, ∀ j ∈ l, ∀ b, f i = some b → f j = some b → i = j) → (l.filterMap f).Nodup
  | [], _, _ => by simp
  | a :: r, hn, h => by
    have hn' := List.nodup_cons.1 hn
    have ih := nodup_filterMap r hn'.2 fun i hi j hj => h i (List.mem_cons_of_mem _ hi) j (List.mem_cons_of_mem _ hj)
    rw [List.filterMap_cons]
    cases ha : f a with
    | none => exact ih
    | some b =>
      simp only
      refine List.nodup_cons.2 ⟨fun hm => ?_, ih⟩
      obtain ⟨j, hj, hb⟩ := List.mem_filterMap.1 hm
      have := h a List.mem_cons_self j (List.mem_cons_of_mem _ hj) b ha hb
      subst this
      exact hn'.1 hj

section
variable {P : Program} {w0 : World} {G0 : Nat → Prop} {N : Nat} {m : St} {e : Env} {tm : Array Value} {os ov : List (Nat × Obj)} {own : List (Nat × Nat)} {G H : Nat → Prop}

theorem decOwn_sound (ho : ∀ i o, find os i = some o → Ob m i o) (hov : ∀ i o, find ov i = some o → Ob m i o) (hG : ∀ b, m.G b → G b)
    (hR : ∀ i T u xs a n c, find ov i = some (.row T u xs) → m.ν i = .slice (some a) n c → G a.block) :
    ∀ (t : Ty) (n : Nat) (vs : List V) (x : t.den) (r : List V) (cs : List Value), decOwn os ov own t n vs = some (x, r) → R2 (Lv m) vs cs →
      ∃ vs1 c1 c2, vs = vs1 ++ r ∧ cs = c1 ++ c2 ∧ vs1.length = t.size ∧ OwnCells m.w G own t n x c1 ((ownIdsV own n vs1).filterMap (blk os m)) ∧ R2 (Lv m) r c2
  | .int k, n, vs, x, r, cs, h, hl => by
    simp only [decOwn] at h
    obtain ⟨c1, c2, e1, h1, h2⟩ := dec_val (st := false) hov hG (fun _ => hR) (.int k) vs x r cs h hl
    cases vs with
    | nil => simp [dec] at h
    | cons v l =>
      cases v with
      | i j y =>
        simp only [dec] at h
        cases hk : kEq k j with
        | false => simp [hk] at h
        | true =>
          simp only [hk, Option.some.injEq, Prod.mk.injEq] at h
          obtain ⟨_, rfl⟩ := h
          exact ⟨[_], c1, c2, rfl, e1, rfl, ⟨h1, rfl⟩, h2⟩
      | _ => simp [dec] at h
  | .bool, n, vs, x, r, cs, h, hl => by
    simp only [decOwn] at h
    obtain ⟨c1, c2, e1, h1, h2⟩ := dec_val (st := false) hov hG (fun _ => hR) .bool vs x r cs h hl
    cases vs with
    | nil => simp [dec] at h
    | cons v l =>
      cases v with
      | b y =>
        simp only [dec, Option.some.injEq, Prod.mk.injEq] at h
        obtain ⟨_, rfl⟩ := h
        exact ⟨[_], c1, c2, rfl, e1, rfl, ⟨h1, rfl⟩, h2⟩
      | _ => simp [dec] at h
  | .str, n, vs, x, r, cs, h, hl => by
    simp only [decOwn] at h
    obtain ⟨c1, c2, e1, h1, h2⟩ := dec_val (st := false) hov hG (fun _ => hR) .str vs x r cs h hl
    cases vs with
    | nil => simp [dec] at h
    | cons v l =>
      cases v with
      | s y =>
        simp only [dec, Option.some.injEq, Prod.mk.injEq] at h
        obtain ⟨_, rfl⟩ := h
        exact ⟨[_], c1, c2, rfl, e1, rfl, ⟨h1, rfl⟩, h2⟩
      | _ => simp [dec] at h
  | .unit, n, vs, x, r, cs, h, hl => by
    simp only [decOwn, dec, Option.some.injEq, Prod.mk.injEq] at h
    obtain ⟨_, rfl⟩ := h
    exact ⟨[], [], cs, rfl, rfl, rfl, ⟨rfl, rfl⟩, hl⟩
  | .pair a b, n, vs, x, r, cs, h, hl => by
    simp only [decOwn] at h
    cases h1 : decOwn os ov own a n vs with
    | none => simp [h1] at h
    | some p =>
      obtain ⟨x1, r1⟩ := p
      simp only [h1] at h
      cases h2 : decOwn os ov own b (n + a.size) r1 with
      | none => simp [h2] at h
      | some p =>
        obtain ⟨x2, r2⟩ := p
        simp only [h2, Option.some.injEq, Prod.mk.injEq] at h
        obtain ⟨rfl, rfl⟩ := h
        obtain ⟨v1, c1, c2, rfl, rfl, l1, o1, q1⟩ := decOwn_sound ho hov hG hR a n vs x1 r1 cs h1 hl
        obtain ⟨v2, c3, c4, rfl, rfl, l2, o2, q2⟩ := decOwn_sound ho hov hG hR b (n + a.size) _ x2 r2 c2 h2 q1
        refine ⟨v1 ++ v2, c1 ++ c3, c4, by simp, by simp, by simp [l1, l2, Ty.size], ⟨c1, c3, _, _, rfl, ?_, o1, o2⟩, q2⟩
        rw [ownIdsV_append, List.filterMap_append, l1]
  | .sl t, n, vs, x, r, cs, h, hl => by
    cases vs with
    | nil => simp [decOwn, dec] at h
    | cons v l =>
      cases cs with
      | nil => exact absurd hl (by simp [R2])
      | cons c cs =>
        simp only [decOwn] at h
        cases hT : ownT own n with
        | none =>
          rw [hT] at h
          simp only at h
          obtain ⟨c1, c2, e1, h1, h2⟩ := dec_val (st := false) hov hG (fun _ => hR) (.sl t) (v :: l) x r (c :: cs) h hl
          have hlen := h2.length
          have hl1 := hl.length
          have hc1 := h1.length
          have hr : r = l := by
            cases v <;> simp only [dec] at h <;> first
              | (simp at h; done)
              | (split at h <;> first | (simp at h; done) | (simp only [Option.some.injEq, Prod.mk.injEq] at h; exact h.2.symm) | (split at h <;> first | (simp at h; done) | (simp only [Option.some.injEq, Prod.mk.injEq] at h; exact h.2.symm)))
              | (simp only [Option.some.injEq, Prod.mk.injEq] at h; exact h.2.symm)
          subst hr
          refine ⟨[v], c1, c2, rfl, e1, rfl, ?_, h2⟩
          unfold OwnCells
          rw [hT]
          refine ⟨h1, ?_⟩
          cases v <;> simp [ownIdsV, hT]
        | some T =>
          rw [hT] at h
          simp only at h
          cases hr : ownRow os T t v with
          | none => simp [hr] at h
          | some xs =>
            simp only [hr, Option.some.injEq, Prod.mk.injEq] at h
            obtain ⟨rfl, rfl⟩ := h
            refine ⟨[v], [c], cs, rfl, rfl, rfl, ?_, hl.2⟩
            unfold OwnCells
            rw [hT]
            have hlv := hl.1
            cases v with
            | nil =>
              simp only [ownRow, Option.some.injEq] at hr
              subst hr
              simp only [Lv] at hlv
              subst hlv
              exact ⟨_, rfl, .inl ⟨rfl, rfl⟩, rfl⟩
            | row id =>
              simp only [ownRow] at hr
              obtain ⟨_, e1, _⟩ := hlv
              cases hf : find os id with
              | none => simp [hf] at hr
              | some o =>
                cases o with
                | row U u ys =>
                  simp only [hf] at hr
                  cases hU : Nat.beq U T with
                  | false => simp [hU] at hr
                  | true =>
                    simp only [hU] at hr
                    have := Nat.eq_of_beq_eq_true hU
                    subst this
                    obtain ⟨e2, e3⟩ := cast?_some hr
                    cases e2
                    subst e3
                    have hob := ho id _ hf
                    refine ⟨c, rfl, ?_, ?_⟩
                    · rw [e1]
                      exact RowAt.mono (fun b hb => ⟨hG b hb, rfl⟩) hob fun _ _ _ _ => rfl
                    · rw [e1]
                      simp only [ownIdsV, hT, List.filterMap_cons, List.filterMap_nil, blk, hf]
                      cases (m.ν id).ownBlock <;> rfl
                | _ => simp [hf] at hr
            | _ => simp [ownRow] at hr

theorem bindCaps_capsH (ho : ∀ i o, find os i = some o → Ob m i o) (hG : ∀ b, m.G b → G b) (hH : ∀ b, m.H b → H b)
    (hR : ∀ i T u xs a n c, find os i = some (.row T u xs) → m.ν i = .slice (some a) n c → G a.block) (hV : ∀ i vs, find os i = some (.var vs) → H (m.β i)) :
    ∀ (ts : List Ty) (cs : List Cap) (x : dens ts) (l : List Value), bindCaps false os ts cs = some x → R2 (Cp m) cs l → CapsH m.w G H ts x l
  | [], [], x, l, h, hl => by
    cases l with
    | nil => rfl
    | cons => exact absurd hl (by simp [R2])
  | t :: r, c :: cs, x, l, h, hl => by
    cases l with
    | nil => exact absurd hl (by simp [R2])
    | cons v l =>
      obtain ⟨h1, h2⟩ := hl
      simp only [bindCaps] at h
      cases hx : capTy false os t c with
      | none => simp [hx] at h
      | some y =>
        cases hy : bindCaps false os r cs with
        | none => simp [hx, hy] at h
        | some z =>
          simp only [hx, hy, Option.some.injEq] at h
          subst h
          refine ⟨?_, bindCaps_capsH ho hG hH hR hV r cs z l hy h2⟩
          cases c with
          | loc id =>
            simp only [capTy, varTy] at hx
            cases hf : find os id with
            | none => simp [hf] at hx
            | some o =>
              have hob := ho id o hf
              cases o with
              | var vs =>
                simp only [hf] at hx
                obtain ⟨ds, T, hh, hr⟩ := hob
                exact ⟨m.β id, 0, ds, h1.2, hV id vs hf, cells_of_heap hh, decCells_val ho hG (fun _ => hR) hx hr⟩
              | _ => simp [hf] at hx
          | el u z =>
            obtain ⟨b, o, ds, e1, hb, hc, hv⟩ := h1
            exact ⟨b, o, ds, e1, hH b hb, hc, Val.cast hx (Val.mono (fun b hb => ⟨hG b hb, rfl⟩) _ _ _ hv)⟩
  | [], _ :: _, x, l, h, hl => by simp [bindCaps] at h
  | _ :: _, [], x, l, h, hl => by simp [bindCaps] at h

theorem packItem_sound (hR : Rel w0 G0 N [] m e tm) (hov : ∀ i o, find ov i = some o → find e.objs i = some o) (hG : ∀ b, m.G b → G b) (hH : ∀ b, m.H b → H b)
    (hRow : ∀ i T u xs a n c, find ov i = some (.row T u xs) → m.ν i = .slice (some a) n c → G a.block) (hV : ∀ i vs, find ov i = some (.var vs) → H (m.β i))
    {a : Item} {x : a.den} (h : packItem e ov a = some x) : PkItem m.w G H tm a x ((ownIds e a).filterMap (blk e.objs m)) := by
  have hob : ∀ i o, find e.objs i = some o → Ob m i o := fun i o hf => (hR.obj i o hf).2
  have hobv : ∀ i o, find ov i = some o → Ob m i o := fun i o hf => hob i o (hov i o hf)
  cases a with
  | val s t =>
    simp only [packItem] at h
    cases hs : e.get s with
    | none => simp [hs] at h
    | some sv =>
      simp only [hs] at h
      obtain ⟨v, hv, hsv⟩ := hR.slots s sv hs
      obtain ⟨cs, h1, h2⟩ := decAll_val (st := false) hobv hG (fun _ => hRow) h hsv
      exact ⟨v, hv, ⟨cs, h1, h2⟩, rfl⟩
  | el s t =>
    simp only [packItem] at h
    cases hs : e.get s with
    | none => simp [hs] at h
    | some sv =>
      obtain ⟨v, hv, hsv⟩ := hR.slots s sv hs
      cases sv with
      | one y =>
        cases y with
        | el u z off =>
          cases off with
          | succ => simp [hs] at h
          | zero =>
            simp only [hs] at h
            obtain ⟨b, o, cs, e1, hb, hc, hval⟩ := hsv
            exact ⟨v, hv, ⟨b, o, cs, by simpa using e1, hH b hb, hc, Val.cast h (Val.mono (fun b hb => ⟨hG b hb, rfl⟩) _ _ _ hval)⟩, rfl⟩
        | loc id off =>
          cases off with
          | succ => simp [hs] at h
          | zero =>
            simp only [hs, varTy] at h
            cases hf : find ov id with
            | none => simp [hf] at h
            | some o =>
              have hobi := hobv id o hf
              cases o with
              | var vs =>
                simp only [hf] at h
                obtain ⟨ds, T, hh, hr⟩ := hobi
                obtain ⟨_, e1⟩ := hsv
                exact ⟨v, hv, ⟨m.β id, 0, ds, e1, hV id vs hf, cells_of_heap hh, decCells_val hobv hG (fun _ => hRow) h hr⟩, rfl⟩
              | _ => simp [hf] at h
        | _ => simp [hs] at h
      | _ => simp [hs] at h
  | clo s f ts =>
    simp only [packItem] at h
    cases hs : e.get s with
    | none => simp [hs] at h
    | some sv =>
      obtain ⟨v, hv, hsv⟩ := hR.slots s sv hs
      cases sv with
      | one y =>
        cases y with
        | clo g caps =>
          simp only [hs] at h
          cases hg : Nat.beq f g with
          | false => simp [hg] at h
          | true =>
            simp only [hg] at h
            have := Nat.eq_of_beq_eq_true hg
            subst this
            obtain ⟨cv, e1, hc⟩ := hsv
            subst e1
            exact ⟨cv, hv, bindCaps_capsH hobv hG hH hRow hV ts caps x cv h hc, rfl⟩
        | _ => simp [hs] at h
      | _ => simp [hs] at h
  | row s T t =>
    simp only [packItem] at h
    cases hs : e.get s with
    | none => simp [hs] at h
    | some sv =>
      obtain ⟨v, hv, hsv⟩ := hR.slots s sv hs
      cases sv with
      | one y =>
        simp only [hs] at h
        cases y with
        | nil =>
          simp only [ownRow, Option.some.injEq] at h
          subst h
          have : v = .slice none 0 0 := hsv
          subst this
          refine ⟨_, hv, .inl ⟨rfl, rfl⟩, ?_⟩
          simp [ownIds, hs, Value.ownBlock]
        | row id =>
          simp only [ownRow] at h
          obtain ⟨_, e1, _⟩ := hsv
          cases hf : find e.objs id with
          | none => simp [hf] at h
          | some o =>
            cases o with
            | row U u ys =>
              simp only [hf] at h
              cases hU : Nat.beq U T with
              | false => simp [hU] at h
              | true =>
                simp only [hU] at h
                have := Nat.eq_of_beq_eq_true hU
                subst this
                obtain ⟨e2, e3⟩ := cast?_some h
                cases e2
                subst e3
                refine ⟨v, hv, ?_, ?_⟩
                · rw [e1]
                  exact RowAt.mono (fun b hb => ⟨hG b hb, rfl⟩) (hob id _ hf) fun _ _ _ _ => rfl
                · rw [e1]
                  simp only [ownIds, hs, List.filterMap_cons, List.filterMap_nil, blk, hf]
                  cases (m.ν id).ownBlock <;> rfl
            | _ => simp [hf] at h
        | _ => simp [ownRow] at h
      | _ => simp [hs] at h
  | var s t own =>
    simp only [packItem] at h
    cases hs : e.get s with
    | none => simp [hs] at h
    | some sv =>
      obtain ⟨v, hv, hsv⟩ := hR.slots s sv hs
      cases sv with
      | one y =>
        cases y with
        | loc id off =>
          cases off with
          | succ => simp [hs] at h
          | zero =>
            simp only [hs] at h
            cases ho : e.obj id with
            | none => simp [ho] at h
            | some o =>
              cases o with
              | var vs =>
                simp only [ho] at h
                cases hd : decOwn e.objs ov own t 0 vs with
                | none => simp [hd] at h
                | some p =>
                  obtain ⟨z, r⟩ := p
                  cases r with
                  | cons => simp [hd] at h
                  | nil =>
                    simp only [hd, Option.some.injEq] at h
                    subst h
                    have ho' : find e.objs id = some (.var vs) := ho
                    obtain ⟨cs, T, hh, hr⟩ := hob id _ ho'
                    obtain ⟨vs1, c1, c2, e1, e2, _, h1, h2⟩ := decOwn_sound hob hobv hG hRow t 0 vs z [] cs hd hr
                    have hc2 : c2 = [] := by cases c2 with
                      | nil => rfl
                      | cons => exact absurd h2 (by simp [R2])
                    subst hc2
                    rw [List.append_nil] at e1 e2
                    subst e1; subst e2
                    obtain ⟨_, e3⟩ := hsv
                    subst e3
                    refine ⟨m.β id, cs, T, _, hv, hh, h1, ?_⟩
                    simp only [ownIds, hs, ho, List.filterMap_append, List.filterMap_cons, List.filterMap_nil, blk, ho']
              | _ => simp [ho] at h
        | _ => simp [hs] at h
      | _ => simp [hs] at h
theorem packAll_sound (hR : Rel w0 G0 N [] m e tm) (hov : ∀ i o, find ov i = some o → find e.objs i = some o) (hG : ∀ b, m.G b → G b) (hH : ∀ b, m.H b → H b)
    (hRow : ∀ i T u xs a n c, find ov i = some (.row T u xs) → m.ν i = .slice (some a) n c → G a.block) (hV : ∀ i vs, find ov i = some (.var vs) → H (m.β i)) :
    ∀ (l : List Item) (x : Items.den l), packAll e ov l = some x → PkAll m.w G H tm l x ((ownAll e l).filterMap (blk e.objs m))
  | [], x, h => rfl
  | [a], x, h => by
    simp only [packAll] at h
    have := packItem_sound hR hov hG hH hRow hV h
    simp only [ownAll, List.append_nil]
    exact this
  | a :: b :: r, x, h => by
    simp only [packAll] at h
    cases h1 : packItem e ov a with
    | none => simp [h1] at h
    | some y =>
      cases h2 : packAll e ov (b :: r) with
      | none => simp [h1, h2] at h
      | some z =>
        simp only [h1, h2, Option.some.injEq] at h
        subst h
        refine ⟨_, _, ?_, packItem_sound hR hov hG hH hRow hV h1, packAll_sound hR hov hG hH hRow hV (b :: r) z h2⟩
        rw [← List.filterMap_append]
        rfl

theorem pack_sound (hR : Rel w0 G0 N [] m e tm) {l : List Item} {y : Items.den l} (h : pack e l = some y) : Packed w0 G0 N m.w l y tm := by
  unfold pack at h
  cases hn : nodupN (ownAll e l) with
  | false => simp [hn] at h
  | true =>
    simp only [hn] at h
    have hnd := nodupN_nodup _ hn
    have hok : ObjsOk w0 G0 m e.objs := by have := hR.ok; rwa [List.append_nil] at this
    have hfo : ∀ i o, find (eraseAll (ownAll e l) e.objs) i = some o → i ∉ ownAll e l ∧ find e.objs i = some o := by
      intro i o hf
      rw [find_eraseAll] at hf
      by_cases hi : i ∈ ownAll e l
      · simp [hi] at hf
      · simp only [hi, if_false] at hf
        exact ⟨hi, hf⟩
    refine ⟨hR.tms, hok.base, fun b => m.G b ∨ ∃ i T t xs, find (eraseAll (ownAll e l) e.objs) i = some (.row T t xs) ∧ blk e.objs m i = some b,
      fun b => m.H b ∨ ∃ i o, find (eraseAll (ownAll e l) e.objs) i = some o ∧ blk e.objs m i = some b, _, packAll_sound hR (fun i o hf => (hfo i o hf).2) (fun b hb => .inl hb) (fun b hb => .inl hb) ?_ ?_ l y h, ?_, ?_, ?_, ?_, ?_, ?_⟩
    · intro i T u xs a n c hf hν
      exact .inr ⟨i, T, u, xs, hf, by simp [blk, (hfo i _ hf).2, hν, Value.ownBlock]⟩
    · intro i vs hf
      exact .inr ⟨i, _, hf, by simp [blk, (hfo i _ hf).2]⟩
    · exact nodup_filterMap _ hnd fun i _ j _ b h1 h2 => hok.inj i j b h1 h2
    · intro b hb
      obtain ⟨i, hi, hbk⟩ := List.mem_filterMap.1 hb
      obtain ⟨o1, o2, o3, o4⟩ := hok.out i b hbk
      refine ⟨fun hg => ?_, fun hg => ?_, o3, o4⟩
      · rcases hg with hg | ⟨j, T, t, xs, hf, hj⟩
        · exact o1 hg
        · have := hok.inj i j b hbk hj
          subst this
          exact (hfo i _ hf).1 hi
      · rcases hg with hg | ⟨j, o, hf, hj⟩
        · exact o2 hg
        · have := hok.inj i j b hbk hj
          subst this
          exact (hfo i _ hf).1 hi
    · intro b hb
      rcases hb with hb | ⟨j, T, t, xs, hf, hj⟩
      · exact hok.liveG b hb
      · exact (hok.out j b hj).2.2.1
    · intro b hb
      rcases hb with hb | ⟨j, o, hf, hj⟩
      · exact hok.liveH b hb
      · exact (hok.out j b hj).2.2.1
    · intro b hb
      rcases hb with hb | ⟨j, T, t, xs, hf, hj⟩
      · exact hok.subG b hb
      · exact .inr (hok.out j b hj).2.2.2
    · intro b hb
      rcases hb with hb | ⟨j, T, t, xs, hf, hj⟩
      · exact .inl (hok.gh b hb)
      · exact .inr ⟨j, _, hf, hj⟩
end
end Go.Ev
end

section
/- A body's code. -/
set_option linter.unusedSimpArgs false
set_option linter.unusedVariables false
namespace Go.Ev
open Go.RowKit (Below)

theorem wp_loop_fuel {P : Program} {Q : Exit → Act → World → Prop} {c : Code} (I : Nat → Act → World → Prop)
    (round : ∀ n a w, I n a w → c.wp P (Exit.then (fun a' w' => ∃ n', n' < n ∧ I n' a' w') Q) a w) {n : Nat} {a : Act} {w : World} (h₀ : I n a w) : (Code.loop c).wp P Q a w := by
  intro b k cs
  have key : ∀ n a w, I n a w → ∃ e a' w', Q e a' w' ∧ Arrives P (lone (b.at a (.code c :: .inLoop c :: k)) cs w) b k cs e a' w' := by
    intro n
    induction n using Nat.strongRecOn with
    | _ n ih =>
      intro a w hI
      obtain ⟨e, a₁, w₁, hq, harr⟩ := round n a w hI b (.inLoop c :: k) cs
      cases e with
      | normal =>
        obtain ⟨n', hlt, hI₁⟩ := hq
        obtain ⟨e₂, a₂, w₂, hq₂, harr₂⟩ := ih n' hlt a₁ w₁ hI₁
        exact ⟨e₂, a₂, w₂, hq₂, .of_steps (Steps.trans harr (.one step_inLoop)) harr₂⟩
      | exit id => exact ⟨_, a₁, w₁, hq, .pass (x := .inLoop c) rfl (fun _ _ => .inl (by simp)) harr⟩
      | goto l => exact ⟨_, a₁, w₁, hq, .pass (x := .inLoop c) rfl (fun _ _ => .inl (by simp)) harr⟩
      | ret => exact ⟨_, a₁, w₁, hq, .pass (x := .inLoop c) rfl (fun _ _ => .inl (by simp)) harr⟩
      | panic ch => exact ⟨_, a₁, w₁, hq, .pass (x := .inLoop c) rfl (fun _ _ => .inl (by simp)) harr⟩
      | outgrown => exact ⟨_, a₁, w₁, hq, .pass (x := .inLoop c) rfl (fun _ _ => .inl (by simp)) harr⟩
  obtain ⟨e, a', w', hq, harr⟩ := key n a w h₀
  exact ⟨e, a', w', hq, .of_steps (.one step_loop) harr⟩

def allDst (N : Nat) : List Oper → Bool
  | [] => true
  | o :: r => match dstOk N o.dst with
    | true => allDst N r
    | false => false
theorem allDst_mem {N : Nat} : ∀ {l : List Oper}, allDst N l = true → ∀ o ∈ l, dstOk N o.dst = true
  | [], _, o, h => by simp at h
  | p :: r, h, o, hm => by
    simp only [allDst] at h
    cases hp : dstOk N p.dst with
    | false => simp [hp] at h
    | true =>
      simp only [hp] at h
      rcases List.mem_cons.1 hm with e | e
      · subst e; exact hp
      · exact allDst_mem h o e
def codeDst (N : Nat) : Code → Bool
  | .region _ ops _ => allDst N ops.toList
  | .seq a b => match codeDst N a with
    | true => codeDst N b
    | false => false
  | .cond _ a b => match codeDst N a with
    | true => codeDst N b
    | false => false
  | .block _ c => codeDst N c
  | .loop c => codeDst N c
  | .scope c => codeDst N c
  | _ => true
theorem both {a b : Bool} (h : (match a with
    | true => b
    | false => false) = true) : a = true ∧ b = true := by cases a <;> cases b <;> simp_all

/-- What is known at an end of a piece of code. -/
def Post (w0 : World) (G0 : Nat → Prop) (N : Nat) {ρ σ : Type} (fin : Env → Option ρ) (ι : ρ → Option σ) (K : Ex → Env → Option σ) (r : σ) : Exit → Act → World → Prop
  | .normal, a, w => ∃ m e, m.w = w ∧ a.defers = [] ∧ Rel w0 G0 N [] m e a.tmps ∧ Fresh m e ∧ K .normal e = some r
  | .exit i, a, w => ∃ m e, m.w = w ∧ a.defers = [] ∧ Rel w0 G0 N [] m e a.tmps ∧ Fresh m e ∧ K (.exit i) e = some r
  | .ret, a, w => ∃ m e z, m.w = w ∧ a.defers = [] ∧ Rel w0 G0 N [] m e a.tmps ∧ fin e = some z ∧ ι z = some r
  | _, _, _ => False

/-- A region in any order. -/
def DrawSound (P : Program) (w0 : World) (Γ : Tab) (Δ : List (Nat × Con)) : Prop := ∀ {G0 : Nat → Prop} {N : Nat} {m : St} {e : Env} {tm : Array Value} {k id : Nat} {ρ : Type} {ops : Array Oper} {K : Env → Option ρ} {r : ρ} {Q : Exit → Act → World → Prop},
    (∀ o ∈ ops.toList, dstOk N o.dst = true) → slotsOk ops.toList (ancs 0 ops.toList []) 0 ops.toList = true → Rel w0 G0 N [] m e tm → Fresh m e → evOpsD Γ Δ k ops.toList (ancs 0 ops.toList []) ops.toList 0 [] e K = some r →
    (∀ m' e' tm', Rel w0 G0 N [] m' e' tm' → Fresh m' e' → K e' = some r → Q .normal ⟨tm', []⟩ m'.w) → (Code.region id ops true).wp P Q ⟨tm, []⟩ m.w

section
variable {P : Program} {w0 : World} {G0 : Nat → Prop} {N : Nat} {Γ : Tab} {Δ : List (Nat × Con)} {A : Ann} {ρ : Type} {fin : Env → Option ρ}

theorem toJoin_some {σ : Type} {its : List Item} {e : Env} {f : Items.den its → Option σ} {r : σ} (h : toJoin its e f = some r) : ∃ y, pack e its = some y ∧ f y = some r := by
  unfold toJoin at h
  cases hp : pack e its with
  | none => simp [hp] at h
  | some y => simp only [hp] at h; exact ⟨y, rfl, h⟩

theorem act_eta {a : Act} (h : a.defers = []) : a = ⟨a.tmps, []⟩ := by cases a; simp only at h; subst h; rfl

/-- A piece of code is sound. -/
def Sound (P : Program) (w0 : World) (G0 : Nat → Prop) (N : Nat) {ρ : Type} (fin : Env → Option ρ) (c : Code) (run : Run ρ) : Prop :=
  ∀ {σ : Type} (ι : ρ → Option σ) (K : Ex → Env → Option σ) (e : Env) (r : σ) (m : St) (tm : Array Value), Rel w0 G0 N [] m e tm → Fresh m e → run ι e K = some r → c.wp P (Post w0 G0 N fin ι K r) ⟨tm, []⟩ m.w

theorem loopQ_sound {id : Nat} {its js : List Item} {body : Code} {run : Nat → Run ρ} (hb : ∀ k, Sound P w0 G0 N fin body (run k)) {k : Nat} {x : Items.den its} {y : Items.den js} {tm : Array Value} {w : World} (hx : Packed w0 G0 N w its x tm)
    (h : loopQ id its js run k x = some y) {Q : Exit → Act → World → Prop} (hQ : ∀ tm' w', Packed w0 G0 N w' js y tm' → Q .normal ⟨tm', []⟩ w') : (Code.block id (.loop body)).wp P Q ⟨tm, []⟩ w := by
  refine wp_block (wp_loop_fuel (fun n a w => a.defers = [] ∧ ∃ x, Packed w0 G0 N w its x a.tmps ∧ loopQ id its js run n x = some y) ?_ (n := k) ⟨rfl, x, hx, h⟩)
  intro n a w ⟨hd, x, hx, h⟩
  cases n with
  | zero => simp [loopQ] at h
  | succ n =>
    simp only [loopQ, stepQ] at h
    obtain ⟨m, hw, hR, hf⟩ := unpack_sound hx
    rw [act_eta hd, ← hw]
    refine wp_mono (hb n _ _ _ _ m a.tmps hR hf h) ?_
    intro ex a' w' hp
    cases ex with
    | normal =>
      obtain ⟨m', e', rfl, hd', hR', hf', hK⟩ := hp
      obtain ⟨x', hp', hl⟩ := toJoin_some hK
      exact ⟨n, Nat.lt_succ_self n, hd', x', pack_sound hR' hp', hl⟩
    | exit i =>
      obtain ⟨m', e', rfl, hd', hR', hf', hK⟩ := hp
      simp only at hK
      cases hi : Nat.beq i id with
      | false => simp [hi] at hK
      | true =>
        simp only [hi] at hK
        have := Nat.eq_of_beq_eq_true hi
        subst this
        obtain ⟨y', hp', hl⟩ := toJoin_some hK
        obtain rfl := Option.some.inj hl
        simp only [Exit.then, Exit.inBlock, if_pos]
        rw [act_eta hd']
        exact hQ _ _ (pack_sound hR' hp')
    | ret =>
      obtain ⟨m', e', z, _, _, _, _, hz⟩ := hp
      simp at hz
    | _ => exact hp.elim

theorem loopR_sound {id : Nat} {its js : List Item} {body : Code} {run : Nat → Run ρ} (hb : ∀ k, Sound P w0 G0 N fin body (run k)) {k : Nat} {x : Items.den its} {y : Items.den js ⊕ ρ} {tm : Array Value} {w : World} (hx : Packed w0 G0 N w its x tm)
    (h : loopR id its js run k x = some y) {Q : Exit → Act → World → Prop} (hQ : ∀ z, y = .inl z → ∀ tm' w', Packed w0 G0 N w' js z tm' → Q .normal ⟨tm', []⟩ w')
    (hQr : ∀ z, y = .inr z → ∀ m e tm', Rel w0 G0 N [] m e tm' → fin e = some z → Q .ret ⟨tm', []⟩ m.w) : (Code.block id (.loop body)).wp P Q ⟨tm, []⟩ w := by
  refine wp_block (wp_loop_fuel (fun n a w => a.defers = [] ∧ ∃ x, Packed w0 G0 N w its x a.tmps ∧ loopR id its js run n x = some y) ?_ (n := k) ⟨rfl, x, hx, h⟩)
  intro n a w ⟨hd, x, hx, h⟩
  cases n with
  | zero => simp [loopR] at h
  | succ n =>
    simp only [loopR, stepR] at h
    obtain ⟨m, hw, hR, hf⟩ := unpack_sound hx
    rw [act_eta hd, ← hw]
    refine wp_mono (hb n _ _ _ _ m a.tmps hR hf h) ?_
    intro ex a' w' hp
    cases ex with
    | normal =>
      obtain ⟨m', e', rfl, hd', hR', hf', hK⟩ := hp
      obtain ⟨x', hp', hl⟩ := toJoin_some hK
      exact ⟨n, Nat.lt_succ_self n, hd', x', pack_sound hR' hp', hl⟩
    | exit i =>
      obtain ⟨m', e', rfl, hd', hR', hf', hK⟩ := hp
      simp only at hK
      cases hi : Nat.beq i id with
      | false => simp [hi] at hK
      | true =>
        simp only [hi] at hK
        have := Nat.eq_of_beq_eq_true hi
        subst this
        obtain ⟨y', hp', hl⟩ := toJoin_some hK
        simp only [Exit.then, Exit.inBlock, if_pos]
        rw [act_eta hd']
        exact hQ y' (Option.some.inj hl).symm _ _ (pack_sound hR' hp')
    | ret =>
      obtain ⟨m', e', z, rfl, hd', hR', hz, he⟩ := hp
      simp only [Exit.then, Exit.inBlock]
      rw [act_eta hd']
      exact hQr z (Option.some.inj he).symm m' e' _ hR' hz
    | _ => exact hp.elim

theorem loop_sound {id : Nat} {body : Code} (ih : ∀ k, Sound P w0 G0 N fin body (fun ι e K => evCode Γ Δ A fin body k ι e K)) (k : Nat) : Sound P w0 G0 N fin (.block id (.loop body)) (fun ι e K => evCode Γ Δ A fin (.block id (.loop body)) k ι e K) := by
    intro σ ι K e r m tm hR hf h
    simp only [evCode] at h
    cases hl : find A.loops id with
    | none => simp [hl] at h
    | some p =>
      obtain ⟨its, j⟩ := p
      simp only [hl] at h
      obtain ⟨x, hp, h⟩ := toJoin_some h
      cases hq : j.quiet with
      | true =>
        rw [hq] at h
        simp only at h
        obtain ⟨y, h1, h2⟩ := bnd_some h
        refine loopQ_sound (fun k => ih k) (pack_sound hR hp) h1 ?_
        intro tm' w' hpk
        obtain ⟨m2, hw, hR2, hf2⟩ := unpack_sound hpk
        exact ⟨m2, _, hw, rfl, hR2, hf2, h2⟩
      | false =>
        rw [hq] at h
        simp only at h
        obtain ⟨y, h1, h2⟩ := bnd_some h
        refine loopR_sound (fun k => ih k) (pack_sound hR hp) h1 ?_ ?_
        · intro z hz tm' w' hpk
          subst hz
          obtain ⟨m2, hw, hR2, hf2⟩ := unpack_sound hpk
          exact ⟨m2, _, hw, rfl, hR2, hf2, h2⟩
        · intro z hz m2 e2 tm' hR2 hfin
          subst hz
          exact ⟨m2, e2, z, rfl, rfl, hR2, hfin, h2⟩

theorem code_sound (hΓ : TabOk P Γ) (hΔ : DelOk P w0 Δ) (hD : DrawSound P w0 Γ Δ) : ∀ (c : Code), codeDst N c = true → ∀ k, Sound P w0 G0 N fin c (fun ι e K => evCode Γ Δ A fin c k ι e K)
  | .skip, hc, k, σ, ι, K, e, r, m, tm, hR, hf, h => wp_skip ⟨m, e, rfl, rfl, hR, hf, h⟩
  | .exit id, hc, k, σ, ι, K, e, r, m, tm, hR, hf, h => wp_exit ⟨m, e, rfl, rfl, hR, hf, h⟩
  | .ret, hc, k, σ, ι, K, e, r, m, tm, hR, hf, h => by
    simp only [evCode] at h
    cases hz : fin e with
    | none => simp [hz] at h
    | some z =>
      simp only [hz] at h
      exact wp_ret ⟨m, e, z, rfl, rfl, hR, hz, h⟩
  | .region id ops d, hc, k, σ, ι, K, e, r, m, tm, hR, hf, h => by
    simp only [evCode] at h
    simp only [codeDst] at hc
    cases d with
    | false =>
      simp only at h
      exact wp_region_list (ops_sound hΓ hΔ rfl (fun m' e' tm' hR' hf' hK => ⟨m', e', rfl, rfl, hR', hf', hK⟩) _ m e tm (allDst_mem hc) hR hf h)
    | true =>
      simp only at h
      cases hs : slotsOk ops.toList (ancs 0 ops.toList []) 0 ops.toList with
      | false => simp [hs] at h
      | true =>
        simp only [hs] at h
        exact hD (allDst_mem hc) hs hR hf h fun m' e' tm' hR' hf' hK => ⟨m', e', rfl, rfl, hR', hf', hK⟩
  | .seq a b, hc, k, σ, ι, K, e, r, m, tm, hR, hf, h => by
    simp only [codeDst] at hc
    obtain ⟨hca, hcb⟩ := both hc
    have iha : ∀ k, Sound P w0 G0 N fin a (fun ι e K => evCode Γ Δ A fin a k ι e K) := fun k {σ} ι K e r m tm => code_sound hΓ hΔ hD a hca k ι K e r m tm
    have ihb : ∀ k, Sound P w0 G0 N fin b (fun ι e K => evCode Γ Δ A fin b k ι e K) := fun k {σ} ι K e r m tm => code_sound hΓ hΔ hD b hcb k ι K e r m tm
    simp only [evCode] at h
    refine wp_seq ?_
    split at h
    · rename_i j hj
      unfold meet at h
      cases hq : j.quiet with
      | true =>
        rw [hq] at h
        simp only at h
        obtain ⟨y, h1, h2⟩ := bnd_some h
        refine wp_mono (iha k _ _ _ _ m tm hR hf h1) ?_
        intro ex a' w' hp
        cases ex with
        | normal =>
          obtain ⟨m', e', rfl, hd', hR', hf', hK⟩ := hp
          obtain ⟨y', hp', hl⟩ := toJoin_some hK
          obtain rfl := Option.some.inj hl
          obtain ⟨m2, hw, hR2, hf2⟩ := unpack_sound (pack_sound hR' hp')
          simp only [Exit.then]
          rw [act_eta hd', ← hw]
          exact ihb k _ _ _ _ m2 _ hR2 hf2 h2
        | exit i =>
          obtain ⟨m', e', _, _, _, _, hK⟩ := hp
          simp at hK
        | ret =>
          obtain ⟨m', e', z, _, _, _, _, hz⟩ := hp
          simp at hz
        | _ => exact hp.elim
      | false =>
        rw [hq] at h
        simp only at h
        obtain ⟨y, h1, h2⟩ := bnd_some h
        refine wp_mono (iha k _ _ _ _ m tm hR hf h1) ?_
        intro ex a' w' hp
        cases ex with
        | normal =>
          obtain ⟨m', e', rfl, hd', hR', hf', hK⟩ := hp
          obtain ⟨y', hp', hl⟩ := toJoin_some hK
          obtain rfl := Option.some.inj hl
          obtain ⟨m2, hw, hR2, hf2⟩ := unpack_sound (pack_sound hR' hp')
          simp only [Exit.then]
          rw [act_eta hd', ← hw]
          exact ihb k _ _ _ _ m2 _ hR2 hf2 h2
        | exit i =>
          obtain ⟨m', e', _, _, _, _, hK⟩ := hp
          simp at hK
        | ret =>
          obtain ⟨m', e', z, rfl, hd', hR', hz, he⟩ := hp
          obtain rfl := Option.some.inj he
          exact ⟨m', e', z, rfl, hd', hR', hz, h2⟩
        | _ => exact hp.elim
    · refine wp_mono (iha k _ _ _ _ m tm hR hf h) ?_
      intro ex a' w' hp
      cases ex with
      | normal =>
        obtain ⟨m', e', rfl, hd', hR', hf', hK⟩ := hp
        simp only [Exit.then]
        rw [act_eta hd']
        exact ihb k _ _ _ _ m' _ hR' hf' hK
      | exit i => exact hp
      | ret => exact hp
      | _ => exact hp.elim
  | .cond c a b, hc, k, σ, ι, K, e, r, m, tm, hR, hf, h => by
    simp only [codeDst] at hc
    obtain ⟨hca, hcb⟩ := both hc
    simp only [evCode] at h
    cases hx : e.one c with
    | none => simp [hx] at h
    | some v =>
      have hl := one_lv (a := ⟨tm, []⟩) hR hx
      cases v with
      | b x =>
        simp only [hx] at h
        simp only [Lv] at hl
        cases x with
        | true => exact wp_cond_true hl (code_sound hΓ hΔ hD a hca k _ _ _ _ m tm hR hf h)
        | false => exact wp_cond_false hl (code_sound hΓ hΔ hD b hcb k _ _ _ _ m tm hR hf h)
      | _ => simp [hx] at h
  | .block id (.loop body), hc, k, σ, ι, K, e, r, m, tm, hR, hf, h => by
    simp only [codeDst] at hc
    have ih : ∀ k, Sound P w0 G0 N fin body (fun ι e K => evCode Γ Δ A fin body k ι e K) := fun k {σ} ι K e r m tm => code_sound hΓ hΔ hD body hc k ι K e r m tm
    exact loop_sound ih k ι K e r m tm hR hf h
  | .block id body, hc, k, σ, ι, K, e, r, m, tm, hR, hf, h => by
    have hcb : codeDst N body = true := hc
    have ih : ∀ k, Sound P w0 G0 N fin body (fun ι e K => evCode Γ Δ A fin body k ι e K) := fun k {σ} ι K e r m tm => code_sound hΓ hΔ hD body hcb k ι K e r m tm
    have h' : (∃ b, body = .loop b) ∨ evCode Γ Δ A fin body k ι e (fun ex e' => match ex with
        | .normal => K .normal e'
        | .exit i => match Nat.beq i id with
          | true => K .normal e'
          | false => K (.exit i) e') = some r := by
      cases body <;> first
        | exact .inl ⟨_, rfl⟩
        | (right; simp only [evCode] at h; exact h)
    rcases h' with ⟨b, rfl⟩ | h'
    · exact loop_sound (fun k {σ} ι K e r m tm => code_sound hΓ hΔ hD b (by simp only [codeDst] at hcb; exact hcb) k ι K e r m tm) k ι K e r m tm hR hf h
    · refine wp_block (wp_mono (ih k _ _ _ _ m tm hR hf h') ?_)
      intro ex a' w' hp
      cases ex with
      | normal => exact hp
      | exit i =>
        obtain ⟨m', e', rfl, hd', hR', hf', hK⟩ := hp
        simp only at hK
        simp only [Exit.inBlock]
        cases hi : Nat.beq i id with
        | true =>
          have := Nat.eq_of_beq_eq_true hi
          simp only [hi] at hK
          rw [if_pos this]
          exact ⟨m', e', rfl, hd', hR', hf', hK⟩
        | false =>
          have hne : ¬ i = id := fun q => by subst q; simp at hi
          simp only [hi] at hK
          rw [if_neg hne]
          exact ⟨m', e', rfl, hd', hR', hf', hK⟩
      | ret => exact hp
      | _ => exact hp.elim
  | .loop c, hc, k, σ, ι, K, e, r, m, tm, hR, hf, h => by simp [evCode] at h
  | .scope c, hc, k, σ, ι, K, e, r, m, tm, hR, hf, h => by simp [evCode] at h
  | .label l, hc, k, σ, ι, K, e, r, m, tm, hR, hf, h => by simp [evCode] at h
  | .goto l, hc, k, σ, ι, K, e, r, m, tm, hR, hf, h => by simp [evCode] at h
end
end Go.Ev
end

section
/- What an operation comes to, apart from what becomes of it. -/
set_option linter.unusedSimpArgs false
set_option linter.unusedVariables false
namespace Go.Ev

section
variable {ρ : Type} {Γ : Tab} {Δ : List (Nat × Con)} {k : Nat}

abbrev pr (v : SV) (e : Env) : Option (SV × Env) := some (v, e)
theorem chk_bind {α β : Type} (b : Bool) (x : Option α) (f : α → Option β) : (chk b x).bind f = chk b (x.bind f) := by cases b <;> rfl
theorem br_bind {α β : Type} (b : Bool) (x y : Option α) (f : α → Option β) : (br b x y).bind f = br b (x.bind f) (y.bind f) := by cases b <;> rfl
theorem bnd_bind {α β γ : Type} (x : Option α) (g : α → Option β) (f : β → Option γ) : (bnd x g).bind f = bnd x fun y => (g y).bind f := by cases x <;> rfl

theorem evInt_nat (op : BinOp) (q : IntKind) (a b : Int) (K : SV → Option ρ) : evInt op q a b K = (evInt op q a b some).bind K := by
  cases op <;> simp only [evInt, chk_bind, Option.bind_some, Option.bind_none]
theorem evStr_nat (op : BinOp) (a b : List UInt8) (K : SV → Option ρ) : evStr op a b K = (evStr op a b some).bind K := by
  cases op <;> simp only [evStr, chk_bind, Option.bind_some, Option.bind_none]
theorem evBin_nat (u : Ty) (op : BinOp) (x y : SV) (K : SV → Option ρ) : evBin u op x y K = (evBin u op x y some).bind K := by
  unfold evBin
  split
  · split
    · simp only [chk_bind, Option.bind_some]
    · simp only [chk_bind, Option.bind_some]
    · split
      · exact evInt_nat _ _ _ _ _
      · rfl
  · split
    · split <;> rfl
    · rfl
  · exact evStr_nat _ _ _ _
  · split
    · split
      · split <;> rfl
      · split <;> rfl
      · rfl
    · rfl
  · rfl
theorem evUn_nat (op : UnOp) (x : V) (K : SV → Option ρ) : evUn op x K = (evUn op x some).bind K := by
  unfold evUn
  split <;> rfl
theorem evIndexAddr_nat (u : Ty) (s : V) (n : Int) (e : Env) (K : SV → Option ρ) : evIndexAddr u s n e K = (evIndexAddr u s n e some).bind K := by
  unfold evIndexAddr
  split
  · split
    · simp only [chk_bind, Option.bind_some]
    · rfl
  · split
    · split
      · simp only [chk_bind, Option.bind_some]
      · rfl
    · split
      · simp only [chk_bind, Option.bind_some]
      · rfl
    · rfl
  · rfl
theorem evSliceN_nat (t : Ty) (xs : List t.den) (lo hi : Option Int) (K : SV → Option ρ) : evSliceN t xs lo hi K = (evSliceN t xs lo hi some).bind K := by
  unfold evSliceN
  split <;> simp only [chk_bind, Option.bind_some]
theorem evSliceS_nat (s : List UInt8) (lo hi : Option Int) (K : SV → Option ρ) : evSliceS s lo hi K = (evSliceS s lo hi some).bind K := by
  unfold evSliceS
  split <;> simp only [chk_bind, Option.bind_some]
/-- from a value to a value and the environment -/
theorem with_env {x : Option SV} (e : Env) (K : SV → Env → Option ρ) : (x.bind fun v => K v e) = (x.bind fun v => pr v e).bind fun p => K p.1 p.2 := by cases x <;> rfl
theorem evSlice_nat (u : Ty) (x : V) (lo hi : Option Operand) (e : Env) (K : SV → Env → Option ρ) : evSlice u x lo hi e K = (evSlice u x lo hi e pr).bind fun p => K p.1 p.2 := by
  unfold evSlice
  split
  · split
    · split
      · rw [evSliceS_nat, evSliceS_nat _ _ _ (fun v => pr v e)]; exact with_env _ _
      · rfl
    · split
      · rw [evSliceN_nat, evSliceN_nat _ _ _ _ (fun v => pr v e)]; exact with_env _ _
      · rfl
    · split
      · split
        · rw [evSliceN_nat, evSliceN_nat _ _ _ _ (fun v => pr v _)]; exact with_env _ _
        · rfl
      · rfl
    · rfl
  · rfl
theorem evLoad_nat (T : Nat) (a : V) (e : Env) (K : SV → Env → Option ρ) : evLoad Γ T a e K = (evLoad Γ T a e pr).bind fun p => K p.1 p.2 := by
  unfold evLoad
  repeat' split
  all_goals rfl
theorem evStore_nat (T : Nat) (a : V) (v : SV) (e : Env) (K : SV → Env → Option ρ) : evStore Γ T a v e K = (evStore Γ T a v e pr).bind fun p => K p.1 p.2 := by
  unfold evStore
  repeat' split
  all_goals rfl
theorem evAppendTo_nat (T : Nat) (t : Ty) (ys : List t.den) (s : V) (e : Env) (K : SV → Env → Option ρ) : evAppendTo T t ys s e K = (evAppendTo T t ys s e pr).bind fun p => K p.1 p.2 := by
  unfold evAppendTo
  repeat' split
  all_goals first | rfl | simp only [chk_bind, Option.bind_some]
theorem evAppend_nat (T : Nat) (s x : V) (e : Env) (K : SV → Env → Option ρ) : evAppend Γ T s x e K = (evAppend Γ T s x e pr).bind fun p => K p.1 p.2 := by
  unfold evAppend
  repeat' split
  all_goals first | rfl | exact evAppendTo_nat _ _ _ _ _ _
theorem evConv_nat (src dst : Ty) (x : V) (e : Env) (K : SV → Env → Option ρ) : evConv src dst x e K = (evConv src dst x e pr).bind fun p => K p.1 p.2 := by
  unfold evConv
  repeat' split
  all_goals rfl
theorem evCall_nat (f : Nat) (vs : List SV) (e : Env) (K : SV → Env → Option ρ) : ∀ (Δ : List (Nat × Con)), evCall k f vs e K Δ = (evCall k f vs e pr Δ).bind fun p => K p.1 p.2
  | [] => rfl
  | (g, c) :: r => by
    have ih := evCall_nat f vs e K r
    simp only [evCall]
    cases Nat.beq f g with
    | false => exact ih
    | true =>
      simp only
      cases flatAll c.res with
      | true =>
        simp only
        cases bindArgs false e.objs c.args vs with
        | none => exact ih
        | some x => simp only [bnd_bind, Option.bind_some]
      | false =>
        simp only
        cases bindArgs true (e.freeze (reachAll e.objs vs)).objs c.args vs with
        | none => exact ih
        | some x => simp only [bnd_bind, Option.bind_some]
theorem evBuiltin_nat (b : Builtin) (ts : List Nat) (vs : List SV) (e : Env) (K : SV → Env → Option ρ) : evBuiltin Γ b ts vs e K = (evBuiltin Γ b ts vs e pr).bind fun p => K p.1 p.2 := by
  unfold evBuiltin
  repeat' split
  all_goals first | rfl | exact evAppend_nat _ _ _ _ _

theorem evOp_nat (o : Op) (e : Env) (K : SV → Env → Option ρ) : evOp Γ Δ k o e K = (evOp Γ Δ k o e pr).bind fun p => K p.1 p.2 := by
  cases o with
  | move x => simp only [evOp]; split <;> rfl
  | assign x => simp only [evOp]; split <;> rfl
  | pick c a b =>
    simp only [evOp]
    split
    · rw [br_bind]
      congr 1 <;> (split <;> rfl)
    · rfl
  | alloc T => simp only [evOp]; split <;> rfl
  | box T x =>
    simp only [evOp]
    repeat' split
    all_goals rfl
  | build T ps =>
    simp only [evOp]
    repeat' split
    all_goals rfl
  | buildSlice T n ps =>
    simp only [evOp]
    repeat' split
    all_goals rfl
  | load T a =>
    simp only [evOp]
    split
    · exact evLoad_nat _ _ _ _
    · rfl
  | store T a x =>
    simp only [evOp]
    split
    · exact evStore_nat _ _ _ _ _
    · rfl
  | nilCheck x => simp only [evOp]; split <;> rfl
  | binOp op T x y yT =>
    simp only [evOp]
    split
    · rw [evBin_nat, evBin_nat _ _ _ _ (fun v => pr v e)]; exact with_env _ _
    · rfl
  | unOp op T x =>
    simp only [evOp]
    split
    · rw [evUn_nat, evUn_nat _ _ (fun v => pr v e)]; exact with_env _ _
    · rfl
  | convert s d x =>
    simp only [evOp]
    split
    · exact evConv_nat _ _ _ _ _
    · rfl
  | makeFunc fn first caps =>
    cases fn <;> simp only [evOp] <;> first | rfl | (split <;> rfl)
  | makeSlice T l c =>
    simp only [evOp]
    repeat' split
    all_goals first | rfl | simp only [chk_bind, Option.bind_some]
  | slice T x lo hi mx =>
    cases mx with
    | some => simp only [evOp]; rfl
    | none =>
      simp only [evOp]
      split
      · exact evSlice_nat _ _ _ _ _ _
      · rfl
  | fieldAddr T x i =>
    simp only [evOp]
    repeat' split
    all_goals rfl
  | indexAddr T x i =>
    simp only [evOp]
    split
    · rw [evIndexAddr_nat, evIndexAddr_nat _ _ _ _ (fun v => pr v e)]; exact with_env _ _
    · rfl
  | index T x i =>
    simp only [evOp]
    repeat' split
    all_goals first | rfl | simp only [chk_bind, Option.bind_some]
  | extract x i =>
    simp only [evOp]
    repeat' split
    all_goals rfl
  | call c =>
    obtain ⟨callee, args, ts⟩ := c
    cases callee with
    | builtin b =>
      simp only [evOp]
      split
      · exact evBuiltin_nat _ _ _ _ _
      · rfl
    | value f =>
      simp only [evOp]
      split
      · exact evCall_nat _ _ _ _ _
      · rfl
    | invoke r n => simp only [evOp]; rfl
  | _ => simp only [evOp]; rfl
end
end Go.Ev
end

section
/- A region whose operations come in any order: lists of writes. -/
set_option linter.unusedSimpArgs false
set_option linter.unusedVariables false
namespace Go.Ev
open Go.RowKit (Below)

/-! ### writes, of which some are done -/
def ovr {α : Type} (f : Nat → Option (Option α)) (S : Nat → Option α) : Nat → Option α := fun x => match f x with
  | some v => v
  | none => S x
def foldW {α : Type} (L : Nat → Bool) : Nat → List (Nat → Option (Option α)) → (Nat → Option α) → Nat → Option α
  | _, [], S => S
  | j, f :: r, S => foldW L (j + 1) r (match L j with
    | true => ovr f S
    | false => S)
section
variable {α : Type}
theorem foldW_congr {L L' : Nat → Bool} (x : Nat) : ∀ (T : List (Nat → Option (Option α))) (j : Nat) (S S' : Nat → Option α), S x = S' x → (∀ k f, T[k]? = some f → f x ≠ none → L (j + k) = L' (j + k)) → foldW L j T S x = foldW L' j T S' x
  | [], _, _, _, h, _ => h
  | f :: r, j, S, S', h, hk => by
    simp only [foldW]
    refine foldW_congr x r (j + 1) _ _ ?_ fun k g hg hx => ?_
    · cases hf : f x with
      | none =>
        have e1 : ∀ S : Nat → Option α, ovr f S x = S x := fun S => by simp [ovr, hf]
        cases L j <;> cases L' j <;> simp only [e1, h]
      | some v =>
        have := hk 0 f rfl (by rw [hf]; simp)
        rw [Nat.add_zero] at this
        rw [this]
        cases L' j
        · exact h
        · simp [ovr, hf]
    · have := hk (k + 1) g (by simpa using hg) hx
      rwa [show j + 1 + k = j + (k + 1) from by omega]
theorem foldW_none {L : Nat → Bool} (x : Nat) : ∀ (T : List (Nat → Option (Option α))) (j : Nat) (S : Nat → Option α), (∀ k f, T[k]? = some f → L (j + k) = true → f x = none) → foldW L j T S x = S x
  | [], _, _, _ => rfl
  | f :: r, j, S, hk => by
    simp only [foldW]
    rw [foldW_none x r (j + 1) _ fun k g hg hL => hk (k + 1) g (by simpa using hg) (by rwa [show j + (k + 1) = j + 1 + k from by omega])]
    cases hL : L j with
    | false => rfl
    | true =>
      have := hk 0 f rfl (by simpa using hL)
      simp [ovr, this]
theorem foldW_hit {L : Nat → Bool} (x : Nat) (v : Option α) : ∀ (T : List (Nat → Option (Option α))) (j : Nat) (S : Nat → Option α) (k : Nat) (f : Nat → Option (Option α)), T[k]? = some f → f x = some v → L (j + k) = true →
    (∀ k' f', k < k' → T[k']? = some f' → L (j + k') = true → f' x = none) → foldW L j T S x = v
  | [], _, _, k, f, h, _, _, _ => by simp at h
  | g :: r, j, S, 0, f, h, hx, hL, hk => by
    simp only [List.getElem?_cons_zero, Option.some.injEq] at h
    subst h
    simp only [foldW]
    rw [Nat.add_zero] at hL
    rw [hL]
    rw [foldW_none x r (j + 1) _ fun k f' hf hL' => hk (k + 1) f' (by omega) (by simpa using hf) (by rwa [show j + (k + 1) = j + 1 + k from by omega])]
    simp [ovr, hx]
  | g :: r, j, S, k + 1, f, h, hx, hL, hk => by
    simp only [foldW]
    exact foldW_hit x v r (j + 1) _ k f (by simpa using h) hx (by rwa [show j + 1 + k = j + (k + 1) from by omega]) fun k' f' hlt hf hL' => hk (k' + 1) f' (by omega) (by simpa using hf) (by rwa [show j + (k' + 1) = j + 1 + k' from by omega])
end

theorem find_only {α : Type} : ∀ (fp : List Nat) (l : List (Nat × α)) (i : Nat), find (only fp l) i = if i ∈ fp then find l i else none
  | fp, [], i => by simp [only, find]
  | fp, (k, v) :: r, i => by
    have ih := find_only fp r i
    simp only [only]
    cases hm : memN fp k with
    | true =>
      have hk := (memN_iff fp k).1 hm
      simp only [find]
      cases hb : Nat.beq k i with
      | true =>
        have := Nat.eq_of_beq_eq_true hb
        subst this
        simp [hk]
      | false => simp only; exact ih
    | false =>
      have hk : k ∉ fp := fun h => by rw [(memN_iff fp k).2 h] at hm; cases hm
      simp only [ih, find]
      cases hb : Nat.beq k i with
      | true =>
        have := Nat.eq_of_beq_eq_true hb
        subst this
        simp [hk]
      | false => rfl
theorem find_without {α : Type} : ∀ (fp : List Nat) (l : List (Nat × α)) (i : Nat), find (without fp l) i = if i ∈ fp then none else find l i
  | fp, [], i => by simp [without, find]
  | fp, (k, v) :: r, i => by
    have ih := find_without fp r i
    simp only [without]
    cases hm : memN fp k with
    | true =>
      have hk := (memN_iff fp k).1 hm
      simp only [ih, find]
      cases hb : Nat.beq k i with
      | true =>
        have := Nat.eq_of_beq_eq_true hb
        subst this
        simp [hk]
      | false => rfl
    | false =>
      have hk : k ∉ fp := fun h => by rw [(memN_iff fp k).2 h] at hm; cases hm
      simp only [find]
      cases hb : Nat.beq k i with
      | true =>
        have := Nat.eq_of_beq_eq_true hb
        subst this
        simp [hk]
      | false => simp only; exact ih
theorem find_mix {α : Type} (ws : List Nat) (a b : List (Nat × α)) (i : Nat) : find (only ws a ++ without ws b) i = if i ∈ ws then find a i else find b i := by
  rw [find_append, find_only, find_without]
  by_cases h : i ∈ ws
  · simp only [h, if_true]
    cases find a i <;> rfl
  · simp only [h, if_false]

/-! ### what comes ahead -/
theorem binding_eq (x : Edge) : Region.binds .any x = binding x := by
  unfold Region.binds binding
  cases x.ground <;> rfl
theorem ancOf_spec {j : Nat} {known : List (Nat × List Nat)} : ∀ (es : List Edge) (a : Nat), a ∈ ancOf j known es → ∃ x ∈ es, binding x = true ∧ x.on < j ∧ (a = x.on ∨ ∃ l, find known x.on = some l ∧ a ∈ l)
  | [], a, h => by simp [ancOf] at h
  | x :: r, a, h => by
    have ih := ancOf_spec (j := j) (known := known) r a
    have up : a ∈ ancOf j known r → ∃ y ∈ x :: r, binding y = true ∧ y.on < j ∧ (a = y.on ∨ ∃ l, find known y.on = some l ∧ a ∈ l) := fun h => by
      obtain ⟨y, hy, h⟩ := ih h
      exact ⟨y, List.mem_cons_of_mem _ hy, h⟩
    simp only [ancOf] at h
    cases hb : binding x with
    | false => rw [hb] at h; exact up h
    | true =>
      cases hl : Nat.blt x.on j with
      | false => rw [hb, hl] at h; exact up h
      | true =>
        rw [hb, hl] at h
        simp only at h
        have hlt : x.on < j := Nat.le_of_ble_eq_true hl
        cases hf : find known x.on with
        | none =>
          rw [hf] at h
          rcases List.mem_cons.1 h with h | h
          · exact ⟨x, List.mem_cons_self, hb, hlt, .inl h⟩
          · exact up h
        | some l =>
          rw [hf] at h
          rcases List.mem_append.1 h with h | h
          · rcases List.mem_cons.1 h with h | h
            · exact ⟨x, List.mem_cons_self, hb, hlt, .inl h⟩
            · exact ⟨x, List.mem_cons_self, hb, hlt, .inr ⟨l, hf, h⟩⟩
          · exact up h
theorem ancs_spec : ∀ (rest : List Oper) (j : Nat) (known : List (Nat × List Nat)), (∀ i, j ≤ i → find known i = none) →
    (∀ i, i < j → find (ancs j rest known) i = find known i) ∧ (∀ i l, find (ancs j rest known) i = some l → j ≤ i → ∃ o, rest[i - j]? = some o ∧ ∀ a ∈ l, ∃ x ∈ o.after.toList, binding x = true ∧ x.on < i ∧ (a = x.on ∨ ∃ l', find (ancs j rest known) x.on = some l' ∧ a ∈ l'))
  | [], j, known, hk => ⟨fun _ _ => rfl, fun i l h hi => by simp only [ancs] at h; rw [hk i hi] at h; cases h⟩
  | o :: r, j, known, hk => by
    simp only [ancs]
    have hk' : ∀ i, j + 1 ≤ i → find ((j, ancOf j known o.after.toList) :: known) i = none := fun i hi => by
      rw [find_cons, if_neg (by omega)]
      exact hk i (by omega)
    obtain ⟨h1, h2⟩ := ancs_spec r (j + 1) _ hk'
    refine ⟨fun i hi => ?_, fun i l h hi => ?_⟩
    · rw [h1 i (by omega), find_cons, if_neg (by omega)]
    · by_cases hij : i = j
      · subst hij
        have hf := h1 i (by omega)
        rw [h, find_cons, if_pos rfl] at hf
        obtain rfl := Option.some.inj hf
        refine ⟨o, by simp, fun a ha => ?_⟩
        obtain ⟨x, hx, hb, hlt, hc⟩ := ancOf_spec _ a ha
        refine ⟨x, hx, hb, hlt, hc.imp id fun ⟨l', hl', ha'⟩ => ⟨l', ?_, ha'⟩⟩
        rw [h1 x.on (by omega), find_cons, if_neg (by omega)]
        exact hl'
      · obtain ⟨o', ho', ha⟩ := h2 i l h (by omega)
        refine ⟨o', ?_, ha⟩
        have e1 : i - j = (i - (j + 1)) + 1 := by omega
        rw [e1, List.getElem?_cons_succ]
        exact ho'
/-- What comes ahead of an operation whose edges are met is done. -/
theorem anc_done {all : List Oper} {L : Nat → Prop} (hL : ∀ j o, all[j]? = some o → L j → ∀ x ∈ o.after.toList, binding x = true → L x.on) :
    ∀ (j : Nat) (l : List Nat), find (ancs 0 all []) j = some l → (∀ o, all[j]? = some o → ∀ x ∈ o.after.toList, binding x = true → L x.on) → ∀ a ∈ l, L a := by
  obtain ⟨_, h2⟩ := ancs_spec all 0 [] (fun i _ => rfl)
  intro j
  induction j using Nat.strongRecOn with
  | _ j ih =>
    intro l hl he a ha
    obtain ⟨o, ho, hx⟩ := h2 j l hl (Nat.zero_le _)
    rw [Nat.sub_zero] at ho
    obtain ⟨x, hxm, hb, hlt, hc⟩ := hx a ha
    have hLx := he o ho x hxm hb
    rcases hc with rfl | ⟨l', hl', ha'⟩
    · exact hLx
    · exact ih x.on hlt l' hl' (fun o' ho' y hy hby => hL x.on o' ho' hLx y hy hby) a ha'

/-! ### slots -/
theorem tmpsOf_mem {t : Nat} : ∀ {l : List Operand}, t ∈ tmpsOf l ↔ .tmp t ∈ l
  | [] => by simp [tmpsOf]
  | o :: r => by
    have ih := tmpsOf_mem (t := t) (l := r)
    cases o <;> simp [tmpsOf, ih]
theorem looks_ops {all : List Oper} {o : Oper} {t : Nat} (h : t ∈ tmpsOf o.op.operands.toList) : t ∈ looks all o := by
  unfold looks
  split
  · exact h
  · split
    · split
      · exact List.mem_cons_of_mem _ h
      · exact h
    · exact h
theorem looks_guard {all : List Oper} {o p : Oper} {g s : Nat} {want : Bool} (h1 : o.guard = some (g, want)) (h2 : nth all g = some p) (h3 : p.dst = some s) : s ∈ looks all o := by
  unfold looks
  rw [h1]
  simp only [h2, h3]
  exact List.mem_cons_self
theorem dstIn_false {d : Option Nat} {l : List Nat} (h : dstIn d l = false) : ∀ t, d = some t → t ∉ l := by
  intro t ht hm
  subst ht
  simp only [dstIn] at h
  rw [(memN_iff l t).2 hm] at h
  cases h
theorem slotsApart_spec {all : List Oper} {x y : Oper} (h : slotsApart all x y = true) : (∀ t, x.dst = some t → t ∉ looks all y) ∧ (∀ t, y.dst = some t → t ∉ looks all x) ∧ ∀ t, x.dst = some t → y.dst ≠ some t := by
  unfold slotsApart at h
  cases h1 : dstIn x.dst (looks all y) with
  | true => simp [h1] at h
  | false =>
    cases h2 : dstIn y.dst (looks all x) with
    | true => simp [h1, h2] at h
    | false =>
      cases h3 : dstEq x.dst y.dst with
      | true => simp [h1, h2, h3] at h
      | false =>
        refine ⟨dstIn_false h1, dstIn_false h2, fun t ht hy => ?_⟩
        rw [ht, hy] at h3
        simp [dstEq] at h3
theorem pairsOk_spec {all : List Oper} {y : Oper} {anc : List Nat} : ∀ (l : List Oper) (k0 : Nat), pairsOk all y anc k0 l = true → ∀ k x, l[k]? = some x → k0 + k ∈ anc ∨ slotsApart all x y = true
  | [], _, _, k, x, h => by simp at h
  | z :: r, k0, h, k, x, hx => by
    have hr : (memN anc k0 = true ∨ slotsApart all z y = true) ∧ pairsOk all y anc (k0 + 1) r = true := by
      simp only [pairsOk] at h
      cases h1 : memN anc k0 with
      | true => rw [h1] at h; exact ⟨.inl rfl, h⟩
      | false =>
        rw [h1] at h
        simp only at h
        cases h2 : slotsApart all z y with
        | true => rw [h2] at h; exact ⟨.inr rfl, h⟩
        | false => simp [h2] at h
    cases k with
    | zero =>
      simp only [List.getElem?_cons_zero, Option.some.injEq] at hx
      subst hx
      exact hr.1.imp (memN_iff anc k0).1 id
    | succ k =>
      have := pairsOk_spec r (k0 + 1) hr.2 k x (by simpa using hx)
      rwa [show k0 + (k + 1) = k0 + 1 + k from by omega]
theorem edgesBack_spec {j : Nat} : ∀ {es : List Edge}, edgesBack j es = true → ∀ x ∈ es, binding x = true → x.on < j
  | [], _, x, h, _ => by simp at h
  | y :: r, h, x, hx, hb => by
    have hr : (binding y = true → y.on < j) ∧ edgesBack j r = true := by
      simp only [edgesBack] at h
      cases h1 : binding y with
      | false => rw [h1] at h; exact ⟨fun q => (by cases q), h⟩
      | true =>
        cases h2 : Nat.blt y.on j with
        | false => simp [h1, h2] at h
        | true => rw [h1, h2] at h; exact ⟨fun _ => Nat.le_of_ble_eq_true h2, h⟩
    rcases List.mem_cons.1 hx with e | e
    · subst e; exact hr.1 hb
    · exact edgesBack_spec hr.2 x e hb
theorem slotsOk_spec {all : List Oper} {an : List (Nat × List Nat)} : ∀ (rest : List Oper) (j : Nat), slotsOk all an j rest = true → ∀ i y, rest[i]? = some y →
    ∃ anc, find an (j + i) = some anc ∧ (∀ k x, k < j + i → all[k]? = some x → k ∈ anc ∨ slotsApart all x y = true) ∧ edgesBack (j + i) y.after.toList = true
  | [], _, _, i, y, h => by simp at h
  | z :: r, j, h, i, y, hy => by
    simp only [slotsOk] at h
    cases hf : find an j with
    | none => simp [hf] at h
    | some anc =>
      simp only [hf] at h
      cases h1 : pairsOk all z anc 0 (takeN j all) with
      | false => simp [h1] at h
      | true =>
        cases h2 : edgesBack j z.after.toList with
        | false => simp [h1, h2] at h
        | true =>
          simp only [h1, h2] at h
          cases i with
          | zero =>
            simp only [List.getElem?_cons_zero, Option.some.injEq] at hy
            subst hy
            refine ⟨anc, hf, fun k x hk hx => ?_, h2⟩
            have := pairsOk_spec _ _ h1 k x (by rw [takeN_eq, List.getElem?_take, if_pos (by omega)]; exact hx)
            rwa [Nat.zero_add] at this
          | succ i =>
            have := slotsOk_spec r (j + 1) h i y (by simpa using hy)
            rwa [show j + (i + 1) = j + 1 + i from by omega]

theorem apartN_spec : ∀ {l l' : List Nat}, apartN l l' = true → ∀ a ∈ l, a ∉ l'
  | [], _, _, a, h => by simp at h
  | b :: r, l', h, a, ha => by
    simp only [apartN] at h
    cases hm : memN l' b with
    | true => simp [hm] at h
    | false =>
      rw [hm] at h
      rcases List.mem_cons.1 ha with e | e
      · subst e
        intro hx
        rw [(memN_iff l' a).2 hx] at hm
        cases hm
      · exact apartN_spec h a e
theorem clear_spec {anc fp wr : List Nat} : ∀ {rs : List Rc}, clear anc fp wr rs = true → ∀ q ∈ rs, q.i ∈ anc ∨ (∀ a ∈ q.wr, a ∉ fp) ∧ ∀ a ∈ q.fp, a ∉ wr
  | [], _, q, h => by simp at h
  | p :: r, h, q, hq => by
    have hr : (p.i ∈ anc ∨ (∀ a ∈ p.wr, a ∉ fp) ∧ ∀ a ∈ p.fp, a ∉ wr) ∧ clear anc fp wr r = true := by
      simp only [clear] at h
      cases h1 : memN anc p.i with
      | true => rw [h1] at h; exact ⟨.inl ((memN_iff _ _).1 h1), h⟩
      | false =>
        rw [h1] at h
        simp only at h
        cases h2 : apartN p.wr fp with
        | false => simp [h2] at h
        | true =>
          cases h3 : apartN p.fp wr with
          | false => simp [h2, h3] at h
          | true => rw [h2, h3] at h; exact ⟨.inr ⟨apartN_spec h2, apartN_spec h3⟩, h⟩
    rcases List.mem_cons.1 hq with e | e
    · subst e; exact hr.1
    · exact clear_spec hr.2 q e
end Go.Ev
end

section
/- A region whose operations come in any order: what the evaluator has noted. -/
set_option linter.unusedSimpArgs false
set_option linter.unusedVariables false
namespace Go.Ev
open Go.RowKit (Below)

/-- What an operation was and did. -/
structure Tr where
  dst : Option Nat
  sv : SV
  did : Bool
  n : Nat
  fp : List Nat
  wr : List Nat
  out : Nat → Option Obj
def wS (x : Tr) : Nat → Option (Option SV) := fun t => if x.dst = some t then some (some x.sv) else none
def wO (x : Tr) : Nat → Option (Option Obj) := fun i => if x.did = true ∧ i ∈ x.n :: x.wr then some (x.out i) else none
def rcOf (j : Nat) (x : Tr) : Rc := ⟨j, x.n :: x.fp, x.n :: x.wr⟩
/-- Two operations do not meet, or the first comes ahead. -/
def Cl (an : List (Nat × List Nat)) (q : Rc) (j : Nat) (x : Tr) : Prop := ∃ anc, find an j = some anc ∧ (q.i ∈ anc ∨ (∀ a ∈ q.wr, a ∉ x.n :: x.fp) ∧ ∀ a ∈ q.fp, a ∉ x.n :: x.wr)

section
variable (Γ : Tab) (Δ : List (Nat × Con)) (k : Nat) (all : List Oper) (an : List (Nat × List Nat)) (n0 : Nat)

def Guarded (o : Oper) (S : Nat → Option SV) (ok : Bool → SV → Prop) : Prop := ∃ g want p s sv, o.guard = some (g, want) ∧ nth all g = some p ∧ p.dst = some s ∧ S s = some sv ∧ ok want sv
def Fact (j : Nat) (o : Oper) (x : Tr) (S : Nat → Option SV) (O : Nat → Option Obj) : Prop :=
  x.dst = o.dst ∧ x.n = n0 + j ∧
  ((x.did = true ∧ (o.guard = none ∨ Guarded all o S fun want sv => sv = .one (.b want)) ∧ (reads o.op = true ∧ x.wr = [] ∨ x.wr = x.fp) ∧
    ∃ E0 e1, (∀ t, find E0.slots t = if t ∈ tmpsOf o.op.operands.toList then S t else none) ∧ (∀ i, find E0.objs i = if i ∈ x.fp then O i else none) ∧ E0.next = x.n ∧ evOp Γ Δ k o.op E0 pr = some (x.sv, e1) ∧ x.out = find e1.objs) ∨
  (x.did = false ∧ x.sv = .tup [] ∧ Guarded all o S fun want sv => sv = .one (.b (!want)) ∨ sv = .tup []))
def TrS : Nat → List Oper → List Tr → (Nat → Option SV) → (Nat → Option Obj) → Prop
  | _, [], [], _, _ => True
  | j, o :: r, x :: xs, S, O => Fact Γ Δ k all n0 j o x S O ∧ TrS (j + 1) r xs (ovr (wS x) S) (ovr (wO x) O)
  | _, _, _, _, _ => False
end

section
variable {Γ : Tab} {Δ : List (Nat × Con)} {k : Nat} {all : List Oper} {an : List (Nat × List Nat)} {n0 : Nat} {ρ : Type}

theorem TrS.length : ∀ {l : List Oper} {T : List Tr} {j : Nat} {S : Nat → Option SV} {O : Nat → Option Obj}, TrS Γ Δ k all n0 j l T S O → T.length = l.length
  | [], [], _, _, _, _ => rfl
  | o :: r, x :: xs, _, _, _, h => by simp [TrS.length h.2]
  | [], _ :: _, _, _, _, h => by simp [TrS] at h
  | _ :: _, [], _, _, _, h => by simp [TrS] at h
theorem foldW_all_false {α : Type} {L : Nat → Bool} {T : List (Nat → Option (Option α))} {j : Nat} {S : Nat → Option α} (h : ∀ i, j ≤ i → L i = false) : foldW L j T S = S := by
  funext x
  exact foldW_none x T j S fun k f _ hL => by rw [h (j + k) (by omega)] at hL; cases hL
theorem TrS.get : ∀ {l : List Oper} {T : List Tr} {j : Nat} {S : Nat → Option SV} {O : Nat → Option Obj}, TrS Γ Δ k all n0 j l T S O → ∀ i o x, l[i]? = some o → T[i]? = some x →
    Fact Γ Δ k all n0 (j + i) o x (foldW (fun q => decide (q < j + i)) j (T.map wS) S) (foldW (fun q => decide (q < j + i)) j (T.map wO) O)
  | [], _, _, _, _, _, i, o, x, h, _ => by simp at h
  | o :: r, [], _, _, _, h, _, _, _, _, _ => by simp [TrS] at h
  | o :: r, x :: xs, j, S, O, h, 0, o', x', ho, hx => by
    simp only [List.getElem?_cons_zero, Option.some.injEq] at ho hx
    subst ho; subst hx
    rw [foldW_all_false (fun q hq => by simp; omega), foldW_all_false (fun q hq => by simp; omega)]
    exact h.1
  | o :: r, x :: xs, j, S, O, h, i + 1, o', x', ho, hx => by
    have := TrS.get h.2 i o' x' (by simpa using ho) (by simpa using hx)
    have e1 : j + (i + 1) = j + 1 + i := by omega
    rw [e1]
    have hj : decide (j < j + 1 + i) = true := by simp; omega
    simp only [List.map_cons, foldW, hj]
    exact this

theorem find_put (e : Env) (d : Option Nat) (sv : SV) : find (e.put d sv).slots = ovr (fun t => if d = some t then some (some sv) else none) (find e.slots) := by
  funext t
  cases d with
  | none => simp [Env.put, ovr]
  | some d =>
    simp only [Env.put, Env.set, find_cons, ovr, Option.some.injEq]
    by_cases h : d = t
    · simp [h]
    · simp [h]

/-- One operation, noted. -/
theorem note (o : Oper) {j : Nat} {rs : List Rc} {e : Env} {r : ρ} {K : List Rc → Env → Option ρ} (hn : e.next = n0 + j) (hg : o.guard = none ∨ Guarded all o (find e.slots) fun want sv => sv = .one (.b want))
    (h : evOpD Γ Δ k an o j rs e K = some r) : ∃ x e', Fact Γ Δ k all n0 j o x (find e.slots) (find e.objs) ∧ x.did = true ∧ (∀ q ∈ rs, Cl an q j x) ∧ K (rcOf j x :: rs) e' = some r ∧ find e'.slots = ovr (wS x) (find e.slots) ∧ find e'.objs = ovr (wO x) (find e.objs) ∧ e'.next = n0 + (j + 1) := by
  unfold evOpD at h
  rw [evOp_nat] at h
  generalize hE : (⟨only (tmpsOf o.op.operands.toList) e.slots, only (foot e o.op.operands.toList) e.objs, e.next⟩ : Env) = E0 at h
  cases hev : evOp Γ Δ k o.op E0 pr with
  | none => simp [hev] at h
  | some p =>
    obtain ⟨sv, e1⟩ := p
    rw [hev] at h
    simp only [Option.bind_some] at h
    generalize hfp : foot e o.op.operands.toList = fp at h hE
    cases ha : find an j with
    | none => simp [ha] at h
    | some anc =>
      simp only [ha] at h
      cases hc : clear anc (e.next :: fp) (e.next :: wrOf o.op fp) rs with
      | false => simp [hc] at h
      | true =>
        simp only [hc] at h
        have hcl := clear_spec hc
        let x : Tr := ⟨o.dst, sv, true, e.next, fp, wrOf o.op fp, find e1.objs⟩
        refine ⟨x, _, ⟨rfl, hn, .inl ⟨rfl, hg, ?_, E0, e1, ?_, ?_, ?_, hev, rfl⟩⟩, rfl, fun q hq => ⟨anc, ha, hcl q hq⟩, h, ?_, ?_, ?_⟩
        · simp only [x, wrOf]
          cases reads o.op with
          | true => exact .inl ⟨rfl, rfl⟩
          | false => exact .inr rfl
        · intro t
          rw [← hE]
          exact find_only _ _ _
        · intro i
          rw [← hE]
          exact find_only _ _ _
        · rw [← hE]
        · exact find_put _ _ _
        · rw [put_objs]
          funext i
          simp only [find_mix, ovr, wO, x, true_and]
          by_cases hi : i ∈ e.next :: wrOf o.op fp
          · simp only [hi, if_true]
          · simp only [hi, if_false]
        · rw [put_next]
          show e.next + 1 = _
          omega
/-- One operation, left out. -/
theorem noteSkip (o : Oper) {j : Nat} {e : Env} (hn : e.next = n0 + j) (hg : Guarded all o (find e.slots) fun want sv => sv = .one (.b (!want)) ∨ sv = .tup []) :
    ∃ x, Fact Γ Δ k all n0 j o x (find e.slots) (find e.objs) ∧ x.did = false ∧ find (skipD o e).slots = ovr (wS x) (find e.slots) ∧ find (skipD o e).objs = ovr (wO x) (find e.objs) ∧ (skipD o e).next = n0 + (j + 1) := by
  let x : Tr := ⟨o.dst, .tup [], false, n0 + j, [], [], fun _ => none⟩
  refine ⟨x, ⟨rfl, rfl, .inr ⟨rfl, rfl, hg⟩⟩, rfl, ?_, ?_, ?_⟩
  · unfold skipD
    exact find_put _ _ _
  · unfold skipD
    rw [put_objs]
    funext i
    simp [ovr, wO, x]
  · unfold skipD
    rw [put_next]
    show e.next + 1 = _
    omega

def Traced (Γ : Tab) (Δ : List (Nat × Con)) (k : Nat) (all : List Oper) (an : List (Nat × List Nat)) (n0 : Nat) (K : Env → Option ρ) (r : ρ) (l : List Oper) (j : Nat) (rs : List Rc) (S : Nat → Option SV) (O : Nat → Option Obj) : Prop :=
  ∃ T ef, TrS Γ Δ k all n0 j l T S O ∧ K ef = some r ∧ ef.next = n0 + (j + l.length) ∧ find ef.slots = foldW (fun _ => true) j (T.map wS) S ∧ find ef.objs = foldW (fun _ => true) j (T.map wO) O ∧
    (∀ q ∈ rs, ∀ i x, T[i]? = some x → x.did = true → Cl an q (j + i) x) ∧ ∀ i i' x x', i < i' → T[i]? = some x → T[i']? = some x' → x.did = true → x'.did = true → Cl an (rcOf (j + i) x) (j + i') x'
theorem trace {K : Env → Option ρ} {r : ρ} : ∀ (l : List Oper) (j : Nat) (rs : List Rc) (e : Env), e.next = n0 + j → evOpsD Γ Δ k all an l j rs e K = some r →
    Traced Γ Δ k all an n0 K r l j rs (find e.slots) (find e.objs)
  | [], j, rs, e, hn, h => ⟨[], e, trivial, h, by simpa using hn, rfl, rfl, fun q _ i x hx => by simp at hx, fun i i' x x' _ hx => by simp at hx⟩
  | o :: l, j, rs, e, hn, h => by
    -- what follows, joined to what was noted
    have join : ∀ (x : Tr) (rs' : List Rc) (e' : Env), Fact Γ Δ k all n0 j o x (find e.slots) (find e.objs) → (x.did = true → (∀ q ∈ rs, Cl an q j x) ∧ rcOf j x ∈ rs') → (∀ q ∈ rs, q ∈ rs') →
        find e'.slots = ovr (wS x) (find e.slots) → find e'.objs = ovr (wO x) (find e.objs) → e'.next = n0 + (j + 1) → evOpsD Γ Δ k all an l (j + 1) rs' e' K = some r →
        Traced Γ Δ k all an n0 K r (o :: l) j rs (find e.slots) (find e.objs) := by
      intro x rs' e' hF hd hrs hs ho hn' h'
      obtain ⟨T, ef, g1, g2, g3, g4, g5, g6, g7⟩ := trace l (j + 1) rs' e' hn' h'
      rw [hs, ho] at g1
      rw [hs] at g4
      rw [ho] at g5
      refine ⟨x :: T, ef, ⟨hF, g1⟩, g2, ?_, g4, g5, ?_, ?_⟩
      · rw [g3, List.length_cons]
        omega
      · intro q hq i y hy hdy
        cases i with
        | zero =>
          simp only [List.getElem?_cons_zero, Option.some.injEq] at hy
          subst hy
          exact (hd hdy).1 q hq
        | succ i =>
          have := g6 q (hrs q hq) i y (by simpa using hy) hdy
          rwa [show j + (i + 1) = j + 1 + i from by omega]
      · intro i i' y y' hlt hy hy' hdy hdy'
        cases i' with
        | zero => omega
        | succ i' =>
          cases i with
          | zero =>
            simp only [List.getElem?_cons_zero, Option.some.injEq] at hy
            subst hy
            have := g6 _ (hd hdy).2 i' y' (by simpa using hy') hdy'
            rwa [show j + (i' + 1) = j + 1 + i' from by omega]
          | succ i =>
            have := g7 i i' y y' (by omega) (by simpa using hy) (by simpa using hy') hdy hdy'
            rwa [show j + (i' + 1) = j + 1 + i' from by omega, show j + (i + 1) = j + 1 + i from by omega]
    have doit : ∀ e1 : Env, find e1.slots = find e.slots → find e1.objs = find e.objs → e1.next = e.next → (o.guard = none ∨ Guarded all o (find e1.slots) fun want sv => sv = .one (.b want)) →
        evOpD Γ Δ k an o j rs e1 (fun rs' e' => evOpsD Γ Δ k all an l (j + 1) rs' e' K) = some r → Traced Γ Δ k all an n0 K r (o :: l) j rs (find e.slots) (find e.objs) := fun e1 h1 h2 h3 hg h' => by
      obtain ⟨x, e', g1, g2, g3, g4, g5, g6, g7⟩ := note (all := all) o (h3.trans hn) hg h'
      rw [h1, h2] at g1
      rw [h1] at g5
      rw [h2] at g6
      exact join x _ e' g1 (fun _ => ⟨g3, List.mem_cons_self⟩) (fun q hq => List.mem_cons_of_mem _ hq) g5 g6 g7 g4
    have skip : ∀ e1 : Env, find e1.slots = find e.slots → find e1.objs = find e.objs → e1.next = e.next → (Guarded all o (find e1.slots) fun want sv => sv = .one (.b (!want)) ∨ sv = .tup []) →
        evOpsD Γ Δ k all an l (j + 1) rs (skipD o e1) K = some r → Traced Γ Δ k all an n0 K r (o :: l) j rs (find e.slots) (find e.objs) := fun e1 h1 h2 h3 hg h' => by
      obtain ⟨x, g1, g2, g5, g6, g7⟩ := noteSkip (Γ := Γ) (Δ := Δ) (k := k) (all := all) o (h3.trans hn) hg
      rw [h1, h2] at g1
      rw [h1] at g5
      rw [h2] at g6
      exact join x rs _ g1 (fun hd => by rw [g2] at hd; cases hd) (fun q hq => hq) g5 g6 g7 h'
    unfold evOpsD at h
    cases hg : o.guard with
    | none =>
      rw [hg] at h
      exact doit e rfl rfl rfl (.inl hg) h
    | some p =>
      obtain ⟨g, want⟩ := p
      rw [hg] at h
      simp only at h
      cases hj : nth all g with
      | none => simp [hj] at h
      | some p =>
        simp only [hj] at h
        cases hds : p.dst with
        | none => simp [hds] at h
        | some s =>
          simp only [hds] at h
          cases hs : e.get s with
          | none => simp [hs] at h
          | some sv =>
            have hs' : find e.slots s = some sv := hs
            cases sv with
            | agg l => simp [hs] at h
            | tup l =>
              cases l with
              | cons => simp [hs] at h
              | nil =>
                simp only [hs] at h
                exact skip e rfl rfl rfl ⟨g, want, p, s, _, hg, hj, hds, hs', .inr rfl⟩ h
            | one y =>
              cases y with
              | b z =>
                simp only [hs] at h
                have hset : find (e.set s (.one (.b z))).slots = find e.slots := by
                  funext t
                  simp only [Env.set, find_cons]
                  by_cases ht : s = t
                  · subst ht; rw [if_pos rfl, hs']
                  · rw [if_neg ht]
                have hgd : ∀ b : Bool, (b = want → z = b → (o.guard = none ∨ Guarded all o (find (e.set s (.one (.b z))).slots) fun want sv => sv = .one (.b want))) := fun b hb hz => .inr ⟨g, want, p, s, .one (.b z), hg, hj, hds, by rw [hset]; exact hs', by rw [hz, hb]⟩
                have hgs : z = !want → Guarded all o (find (e.set s (.one (.b z))).slots) fun want sv => sv = .one (.b (!want)) ∨ sv = .tup [] := fun hz => ⟨g, want, p, s, .one (.b z), hg, hj, hds, by rw [hset]; exact hs', .inl (by rw [hz])⟩
                cases z <;> cases want <;> simp only [br, cond] at h
                · exact doit _ hset rfl rfl (hgd false rfl rfl) h
                · exact skip _ hset rfl rfl (hgs rfl) h
                · exact skip _ hset rfl rfl (hgs rfl) h
                · exact doit _ hset rfl rfl (hgd true rfl rfl) h
              | _ => simp [hs] at h
end
end Go.Ev
end

section
/- A region whose operations come in any order: sound. -/
set_option linter.unusedSimpArgs false
set_option linter.unusedVariables false
namespace Go.Ev
open Go.RowKit (Below)

theorem ObjsOk.sub {w0 : World} {G0 : Nat → Prop} {m : St} {os os' : List (Nat × Obj)} (h : ObjsOk w0 G0 m os) (hf : ∀ i o, find os' i = some o → find os i = some o) : ObjsOk w0 G0 m os' := by
  have hb : ∀ i b, blk os' m i = some b → blk os m i = some b := fun i b hb => by
    unfold blk at hb ⊢
    cases ho : find os' i with
    | none => rw [ho] at hb; simp at hb
    | some o => rw [hf i o ho]; rw [ho] at hb; exact hb
  exact ⟨h.base, fun i o ho => h.objs i o (hf i o ho), fun i j b h1 h2 => h.inj i j b (hb i b h1) (hb j b h2), fun i b h1 => h.out i b (hb i b h1), h.liveG, h.liveH, h.subG, h.gh⟩

/-- how many are left -/
def left (n : Nat) (listed : Array Bool) : Nat := ((List.range n).filter fun i => !listed.getD i true).length
theorem filter_le {α : Type} {p q : α → Bool} (h : ∀ a, q a = true → p a = true) : ∀ l : List α, (l.filter q).length ≤ (l.filter p).length
  | [] => by simp
  | a :: l => by
    have ih := filter_le h l
    by_cases hq : q a = true
    · simp [List.filter_cons, hq, h a hq]; exact ih
    · by_cases hp : p a = true
      · simp [List.filter_cons, hq, hp]; omega
      · simp [List.filter_cons, hq, hp]; exact ih
theorem filter_lt {α : Type} {p q : α → Bool} (h : ∀ a, q a = true → p a = true) (x : α) (hp : p x = true) (hq : q x = false) : ∀ l : List α, x ∈ l → (l.filter q).length < (l.filter p).length
  | [], hx => by simp at hx
  | a :: l, hx => by
    have hle := filter_le h l
    rcases List.mem_cons.1 hx with e | e
    · subst e
      simp [List.filter_cons, hp, hq]; omega
    · have ih := filter_lt h x hp hq l e
      by_cases hqa : q a = true
      · simp [List.filter_cons, hqa, h a hqa]; exact ih
      · by_cases hpa : p a = true
        · simp [List.filter_cons, hqa, hpa]; omega
        · simp [List.filter_cons, hqa, hpa]; exact ih

section
variable {P : Program} {w0 : World} {G0 : Nat → Prop} {N : Nat} {Γ : Tab} {Δ : List (Nat × Con)} {k : Nat} {ρ : Type}

/-- What is known while operations are done in some order. -/
structure Amid (w0 : World) (G0 : Nat → Prop) (N : Nat) (all : List Oper) (n0 : Nat) (T : List Tr) (S0 : Nat → Option SV) (O0 : Nat → Option Obj) (listed : Array Bool) (m : St) (e : Env) (tm : Array Value) : Prop where
  size : listed.size = all.length
  rel : Rel w0 G0 N [] m e tm
  slots : ∀ t, find e.slots t = foldW (fun i => listed.getD i false) 0 (T.map wS) S0 t
  objs : ∀ i, find e.objs i = foldW (fun i => listed.getD i false) 0 (T.map wO) O0 i
  names : ∀ i, m.D i → i < n0 ∨ ∃ j, j < all.length ∧ listed.getD j false = true ∧ i = n0 + j
  closed : ∀ j o, all[j]? = some o → listed.getD j false = true → ∀ x ∈ o.after.toList, binding x = true → listed.getD x.on false = true

theorem getD_set {l : Array Bool} {i j : Nat} (hi : i < l.size) : (l.setIfInBounds i true).getD j false = if i = j then true else l.getD j false := by
  simp only [Array.getD_eq_getD_getElem?]
  by_cases h : i = j
  · subst h
    rw [Array.getElem?_setIfInBounds_self_of_lt hi]
    simp
  · rw [Array.getElem?_setIfInBounds_ne h]
    simp [h]
theorem getD_set' {l : Array Bool} {i j : Nat} (hi : i < l.size) : (l.setIfInBounds i true).getD j true = if i = j then true else l.getD j true := by
  simp only [Array.getD_eq_getD_getElem?]
  by_cases h : i = j
  · subst h
    rw [Array.getElem?_setIfInBounds_self_of_lt hi]
    simp
  · rw [Array.getElem?_setIfInBounds_ne h]
    simp [h]
theorem getD_in {l : Array Bool} {j : Nat} (hj : j < l.size) : l.getD j true = l.getD j false := by
  simp [Array.getD_eq_getD_getElem?, hj]

theorem any_sound (hΓ : TabOk P Γ) (hΔ : DelOk P w0 Δ) {ops : Array Oper} {all : List Oper} (hall : ops.toList = all) {an : List (Nat × List Nat)} (han : an = ancs 0 all []) (hdst : ∀ o ∈ all, dstOk N o.dst = true) (hok : slotsOk all an 0 all = true)
    {n0 : Nat} {T : List Tr} {S0 : Nat → Option SV} {O0 : Nat → Option Obj} (hT : TrS Γ Δ k all n0 0 all T S0 O0)
    (hC : ∀ i i' x x', i < i' → T[i]? = some x → T[i']? = some x' → x.did = true → x'.did = true → Cl an (rcOf i x) i' x') {Q : Exit → Act → World → Prop}
    (hQ : ∀ m e tm, Rel w0 G0 N [] m e tm → (∀ i, m.D i → i < n0 + all.length) → (∀ t, find e.slots t = foldW (fun _ => true) 0 (T.map wS) S0 t) → (∀ i, find e.objs i = foldW (fun _ => true) 0 (T.map wO) O0 i) → Q .normal ⟨tm, []⟩ m.w) :
    ∀ (fuel : Nat) (listed : Array Bool) (m : St) (e : Env) (tm : Array Value), left all.length listed ≤ fuel → Amid w0 G0 N all n0 T S0 O0 listed m e tm → wpAny P .any ops Q fuel listed ⟨tm, []⟩ m.w := by
  have hlen : ops.size = all.length := by rw [← hall, Array.length_toList]
  have hTl := hT.length
  -- nothing is ready: all is done
  have fin : ∀ (listed : Array Bool) (m : St) (e : Env) (tm : Array Value), Region.ready .any ops listed = [] → Amid w0 G0 N all n0 T S0 O0 listed m e tm → Q .normal ⟨tm, []⟩ m.w := by
    intro listed m e tm hr hA
    have hdone : ∀ i, i < all.length → listed.getD i false = true := by
      intro i
      induction i using Nat.strongRecOn with
      | _ i ih =>
        intro hi
        cases hb : listed.getD i false with
        | true => rfl
        | false =>
          exfalso
          have ho : ops[i]? = some all[i] := by rw [← Array.getElem?_toList, hall]; simp
          obtain ⟨anc, _, _, hback⟩ := slotsOk_spec all 0 hok i all[i] (by simp)
          rw [Nat.zero_add] at hback
          have hmem : i ∈ Region.ready .any ops listed := by
            unfold Region.ready
            rw [List.mem_filter]
            refine ⟨List.mem_range.2 (by omega), ?_⟩
            rw [getD_in (by rw [hA.size]; exact hi), hb, ho]
            simp only [Bool.not_false, Bool.true_and, Option.map_some, Option.getD_some]
            rw [Array.all_eq_true_iff_forall_mem]
            intro x hx
            rw [binding_eq]
            cases hbx : binding x with
            | false => rfl
            | true =>
              have hlt := edgesBack_spec hback x (by simpa using hx) hbx
              simp [ih x.on hlt (by omega)]
          rw [hr] at hmem
          simp at hmem
    refine hQ m e tm hA.rel (fun i hi => ?_) (fun t => ?_) (fun i => ?_)
    · rcases hA.names i hi with h | ⟨j, hj, _, rfl⟩ <;> omega
    · rw [hA.slots t]
      refine foldW_congr t _ 0 _ _ rfl fun j f hf _ => ?_
      have hj : j < T.length := by
        have := (List.getElem?_eq_some_iff.1 hf).1
        simpa using this
      rw [Nat.zero_add]
      exact hdone j (by omega)
    · rw [hA.objs i]
      refine foldW_congr i _ 0 _ _ rfl fun j f hf _ => ?_
      have hj : j < T.length := by
        have := (List.getElem?_eq_some_iff.1 hf).1
        simpa using this
      rw [Nat.zero_add]
      exact hdone j (by omega)
  intro fuel
  induction fuel with
  | zero =>
    intro listed m e tm hf hA
    have hr : Region.ready .any ops listed = [] := by
      unfold Region.ready
      rw [List.filter_eq_nil_iff]
      intro i hi hx
      have h0 : ((List.range all.length).filter fun i => !listed.getD i true) = [] := List.eq_nil_of_length_eq_zero (by unfold left at hf; omega)
      rw [List.filter_eq_nil_iff] at h0
      have := h0 i (by rw [← hlen]; exact hi)
      simp only [Bool.and_eq_true] at hx
      exact this hx.1
    exact ⟨hr, fin listed m e tm hr hA⟩
  | succ fuel ih =>
    intro listed m e tm hf hA
    refine ⟨fun hr => fin listed m e tm hr hA, fun i hi => ?_⟩
    unfold Region.ready at hi
    rw [List.mem_filter] at hi
    obtain ⟨hir, hip⟩ := hi
    have hin : i < all.length := by rw [← hlen]; exact List.mem_range.1 hir
    have ho : ops[i]? = some all[i] := by rw [← Array.getElem?_toList, hall]; simp
    have hoa : all[i]? = some all[i] := by simp
    generalize all[i] = o at ho hoa
    simp only [Bool.and_eq_true] at hip
    obtain ⟨hnl, hedg⟩ := hip
    rw [getD_in (by rw [hA.size]; exact hin)] at hnl
    have hLi : listed.getD i false = false := by simpa using hnl
    have hedges : ∀ x ∈ o.after.toList, binding x = true → listed.getD x.on false = true := by
      intro x hx hb
      rw [ho] at hedg
      simp only [Option.map_some, Option.getD_some] at hedg
      rw [Array.all_eq_true_iff_forall_mem] at hedg
      have := hedg x (by simpa using hx)
      rw [binding_eq, hb] at this
      simpa using this
    obtain ⟨x, hx⟩ : ∃ x, T[i]? = some x := ⟨_, List.getElem?_eq_getElem (by omega)⟩
    have hF := hT.get i o x hoa hx
    rw [Nat.zero_add] at hF
    obtain ⟨hxd, hxn, hcase⟩ := hF
    -- what comes ahead of i is done; what is done has not i ahead
    have ahead : ∀ anc, find an i = some anc → ∀ a ∈ anc, listed.getD a false = true := by
      intro anc ha
      rw [han] at ha
      exact anc_done (L := fun a => listed.getD a false = true) hA.closed i anc ha fun o' ho' => by
        rw [hoa] at ho'
        obtain rfl := Option.some.inj ho'
        exact hedges
    have later : ∀ j, listed.getD j false = true → ∀ anc, find an j = some anc → i ∉ anc := by
      intro j hj anc ha hm
      rw [han] at ha
      have := anc_done (L := fun a => listed.getD a false = true) hA.closed j anc ha (fun o' ho' => hA.closed j o' ho' hj) i hm
      rw [hLi] at this
      cases this
    have hTo : ∀ (j : Nat) (y : Tr), T[j]? = some y → ∃ oj : Oper, all[j]? = some oj ∧ y.dst = oj.dst := by
      intro j y hy
      have hj : j < all.length := by
        have := (List.getElem?_eq_some_iff.1 hy).1
        omega
      have := (hT.get j all[j] y (by simp) hy).1
      exact ⟨all[j], by simp, this⟩
    obtain ⟨anci, hanci, hpair, _⟩ := slotsOk_spec all 0 hok i o hoa
    rw [Nat.zero_add] at hanci hpair
    -- who writes what i looks at
    have slotsSame : ∀ t, t ∈ looks all o → find e.slots t = foldW (fun q => decide (q < i)) 0 (T.map wS) S0 t := by
      intro t ht
      rw [hA.slots t]
      refine foldW_congr t _ 0 _ _ rfl fun j f hfj hft => ?_
      rw [Nat.zero_add]
      rw [List.getElem?_map] at hfj
      cases hy : T[j]? with
      | none => rw [hy] at hfj; simp at hfj
      | some y =>
        rw [hy] at hfj
        simp only [Option.map_some, Option.some.injEq] at hfj
        subst hfj
        have hyd : y.dst = some t := by
          unfold wS at hft
          by_cases h : y.dst = some t
          · exact h
          · rw [if_neg h] at hft; exact absurd rfl hft
        obtain ⟨oj, hoj, hdj⟩ := hTo j y hy
        rw [hyd] at hdj
        rcases Nat.lt_trichotomy j i with hlt | rfl | hgt
        · have : listed.getD j false = true := by
            rcases hpair j oj hlt hoj with h | h
            · exact ahead anci hanci j h
            · exact absurd ht ((slotsApart_spec h).1 t hdj.symm)
          simp [this, hlt]
        · simp [hLi]
        · cases hLj : listed.getD j false with
          | false => simp; omega
          | true =>
            exfalso
            obtain ⟨ancj, hancj, hpj, _⟩ := slotsOk_spec all 0 hok j oj hoj
            rw [Nat.zero_add] at hancj hpj
            rcases hpj i o hgt hoa with h | h
            · exact later j hLj ancj hancj h
            · exact (slotsApart_spec h).2.1 t hdj.symm ht
    -- later ones that are done leave i's slot and objects alone
    have slotAlone : ∀ t, o.dst = some t → ∀ j y, i < j → T[j]? = some y → listed.getD j false = true → y.dst ≠ some t := by
      intro t ht j y hgt hy hLj hyd
      obtain ⟨oj, hoj, hdj⟩ := hTo j y hy
      obtain ⟨ancj, hancj, hpj, _⟩ := slotsOk_spec all 0 hok j oj hoj
      rw [Nat.zero_add] at hancj hpj
      rcases hpj i o hgt hoa with h | h
      · exact later j hLj ancj hancj h
      · exact (slotsApart_spec h).2.2 t ht (by rw [← hdj]; exact hyd)
    have hisz : i < listed.size := by rw [hA.size]; exact hin
    have hLset : ∀ j, (listed.setIfInBounds i true).getD j false = if i = j then true else listed.getD j false := fun j => getD_set hisz
    have hleft : left all.length (listed.setIfInBounds i true) ≤ fuel := by
      have : left all.length (listed.setIfInBounds i true) < left all.length listed := by
        unfold left
        refine filter_lt (fun a ha => ?_) i ?_ ?_ _ (List.mem_range.2 hin)
        · rw [getD_set' hisz] at ha
          by_cases h : i = a
          · rw [if_pos h] at ha; simp at ha
          · rw [if_neg h] at ha; exact ha
        · rw [getD_in hisz, hLi]; rfl
        · rw [getD_set' hisz, if_pos rfl]; rfl
      omega
    have closed' : ∀ j o', all[j]? = some o' → (listed.setIfInBounds i true).getD j false = true → ∀ y ∈ o'.after.toList, binding y = true → (listed.setIfInBounds i true).getD y.on false = true := by
      intro j o' ho' hj y hy hb
      rw [hLset] at hj ⊢
      by_cases h : i = y.on
      · rw [if_pos h]
      · rw [if_neg h]
        by_cases hij : i = j
        · subst hij
          rw [hoa] at ho'
          obtain rfl := Option.some.inj ho'
          exact hedges y hy hb
        · rw [if_neg hij] at hj
          exact hA.closed j o' ho' hj y hy hb
    have slots' : ∀ e' : Env, find e'.slots = find e.slots → ∀ t, find (e'.put o.dst x.sv).slots t = foldW (fun q => (listed.setIfInBounds i true).getD q false) 0 (T.map wS) S0 t := by
      intro e' he' t
      rw [find_put]
      have hxi : (T.map wS)[i]? = some (wS x) := by rw [List.getElem?_map, hx]; rfl
      by_cases ht : o.dst = some t
      · have : wS x t = some (some x.sv) := by unfold wS; rw [hxd, if_pos ht]
        rw [foldW_hit t (some x.sv) _ 0 _ i (wS x) hxi this (by rw [Nat.zero_add, hLset, if_pos rfl]) ?_]
        · simp [ovr, ht]
        · intro j f hlt hfj hLj
          rw [List.getElem?_map] at hfj
          cases hy : T[j]? with
          | none => rw [hy] at hfj; simp at hfj
          | some y =>
            rw [hy] at hfj
            simp only [Option.map_some, Option.some.injEq] at hfj
            subst hfj
            rw [Nat.zero_add, hLset, if_neg (by omega)] at hLj
            unfold wS
            rw [if_neg (slotAlone t ht j y hlt hy hLj)]
      · have e1 : ovr (fun t => if o.dst = some t then some (some x.sv) else none) (find e'.slots) t = find e.slots t := by
          simp [ovr, ht, he']
        rw [e1, hA.slots t]
        refine foldW_congr t _ 0 _ _ rfl fun j f hfj hft => ?_
        rw [Nat.zero_add, hLset]
        by_cases hij : i = j
        · subst hij
          rw [hxi] at hfj
          obtain rfl := Option.some.inj hfj
          exfalso
          apply hft
          unfold wS
          rw [hxd, if_neg ht]
        · rw [if_neg hij]
    -- the guard
    have guard : ∀ {okp : Bool → SV → Prop}, Guarded all o (foldW (fun q => decide (q < i)) 0 (T.map wS) S0) okp → ∃ g want p s sv v, o.guard = some (g, want) ∧ nth all g = some p ∧ p.dst = some s ∧ tm[s]? = some v ∧ Sv m sv v ∧ okp want sv := by
      intro okp ⟨g, want, p, s, sv, h1, h2, h3, h4, h5⟩
      rw [← slotsSame s (looks_guard h1 h2 h3)] at h4
      obtain ⟨v, hv, hsv⟩ := hA.rel.slots s sv h4
      exact ⟨g, want, p, s, sv, v, h1, h2, h3, hv, hsv, h5⟩
    unfold wpOp
    rw [ho]
    simp only
    rcases hcase with ⟨hdid, hg, hwr, E0, e1, hE1, hE2, hE3, hev, hout⟩ | ⟨hdid, hsv, hg⟩
    · -- it is done
      have hw : Region.wanted o (yielded ops tm) = true := by
        rcases hg with hg | hg
        · simp [Region.wanted, hg]
        · obtain ⟨g, want, p, s, sv, v, h1, h2, h3, hv, hsv, h5⟩ := guard hg
          subst h5
          have : v = .bool want := hsv
          subst this
          simp only [Region.wanted, h1, yielded_bool hall h2 h3 hv]
          cases want <;> rfl
      simp only [hw, if_true]
      left
      have objsSame : ∀ q, q ∈ x.fp → find e.objs q = foldW (fun q => decide (q < i)) 0 (T.map wO) O0 q := by
        intro q hq
        rw [hA.objs q]
        refine foldW_congr q _ 0 _ _ rfl fun j f hfj hft => ?_
        rw [Nat.zero_add]
        rw [List.getElem?_map] at hfj
        cases hy : T[j]? with
        | none => rw [hy] at hfj; simp at hfj
        | some y =>
          rw [hy] at hfj
          simp only [Option.map_some, Option.some.injEq] at hfj
          subst hfj
          have hyd : y.did = true ∧ q ∈ y.n :: y.wr := by
            unfold wO at hft
            by_cases h : y.did = true ∧ q ∈ y.n :: y.wr
            · exact h
            · rw [if_neg h] at hft; exact absurd rfl hft
          rcases Nat.lt_trichotomy j i with hlt | rfl | hgt
          · have : listed.getD j false = true := by
              obtain ⟨anc, ha, hc⟩ := hC j i y x hlt hy hx hyd.1 hdid
              rcases hc with h | ⟨h, _⟩
              · exact ahead anc ha j h
              · exact absurd (List.mem_cons_of_mem _ hq) (h q hyd.2)
            simp [this, hlt]
          · simp [hLi]
          · cases hLj : listed.getD j false with
            | false => simp; omega
            | true =>
              exfalso
              obtain ⟨anc, ha, hc⟩ := hC i j x y hgt hx hy hdid hyd.1
              rcases hc with h | ⟨_, h⟩
              · exact later j hLj anc ha h
              · exact h q (List.mem_cons_of_mem _ hq) hyd.2
      have hwsub : ∀ q, q ∈ x.n :: x.wr → q ∈ x.n :: x.fp := by
        intro q hq
        rcases hwr with ⟨_, h⟩ | h
        · rw [h] at hq
          rcases List.mem_cons.1 hq with h | h
          · subst h; exact List.mem_cons_self
          · simp at h
        · rw [h] at hq; exact hq
      have hok0 : ObjsOk w0 G0 m e.objs := by have := hA.rel.ok; rwa [List.append_nil] at this
      -- the relation, told of what it looks at; all else lies beside it
      have hR0 : Rel w0 G0 N (without x.fp e.objs) m E0 tm := by
        refine ⟨hok0.congr fun q => ?_, fun q ob hq => ?_, hA.rel.tms, fun t sv ht => ?_⟩
        · rw [find_append, hE2, find_without]
          by_cases hq : q ∈ x.fp
          · simp only [hq, if_true]
            rw [← objsSame q hq]
            cases find e.objs q <;> rfl
          · simp only [hq, if_false]
        · rw [hE2] at hq
          rw [find_without]
          by_cases h : q ∈ x.fp
          · rw [if_pos h]
          · rw [if_neg h] at hq; cases hq
        · rw [hE1] at ht
          by_cases h : t ∈ tmpsOf o.op.operands.toList
          · rw [if_pos h, ← slotsSame t (looks_ops h)] at ht
            exact hA.rel.slots t sv ht
          · rw [if_neg h] at ht; cases ht
      have hfr : ¬ m.D E0.next := by
        rw [hE3, hxn]
        intro hD
        rcases hA.names _ hD with h | ⟨j, _, hj, h⟩
        · omega
        · have : j = i := by omega
          subst this
          rw [hLi] at hj
          cases hj
      refine op_sound (a := ⟨tm, []⟩) hΓ hΔ hR0 hfr o hev ?_
      intro m' e' s v ⟨g1, g2, g3, g4, g5⟩
      have e2 : (s, e') = (x.sv, e1) := Option.some.inj g5
      have es : s = x.sv := congrArg Prod.fst e2
      have ee : e' = e1 := congrArg Prod.snd e2
      subst es; subst ee
      have hxn' : E0.next = x.n := hE3
      -- the objects behind it
      have hsub : ∀ q ob, find (only (x.n :: x.wr) e'.objs ++ without (x.n :: x.wr) e.objs) q = some ob → find (e'.objs ++ without x.fp e.objs) q = some ob := by
        intro q ob hq
        rw [find_mix] at hq
        by_cases h : q ∈ x.n :: x.wr
        · rw [if_pos h] at hq
          exact find_left hq
        · rw [if_neg h] at hq
          by_cases hqf : q ∈ x.fp
          · rcases hwr with ⟨hrd, hw0⟩ | hw0
            · have hqn : q ≠ E0.next := fun hh => h (by rw [← hxn', ← hh]; exact List.mem_cons_self)
              have := g2 hrd q hqn
              rw [hE2, if_pos hqf, ← objsSame q hqf, hq] at this
              exact find_left this
            · exact absurd (List.mem_cons_of_mem _ (by rw [hw0]; exact hqf)) h
          · have hFq : find (without x.fp e.objs) q = some ob := by rw [find_without, if_neg hqf]; exact hq
            have hn : find e'.objs q = none := by
              cases hz : find e'.objs q with
              | none => rfl
              | some z =>
                have := g3.disj q z hz
                rw [hFq] at this
                cases this
            rw [find_append, hn]
            exact hFq
      have hR1 : Rel w0 G0 N [] m' ⟨e.slots, only (x.n :: x.wr) e'.objs ++ without (x.n :: x.wr) e.objs, e.next⟩ tm := by
        refine ⟨by rw [List.append_nil]; exact g3.ok.sub hsub, fun _ _ _ => rfl, hA.rel.tms, fun t sv ht => ?_⟩
        obtain ⟨u, hu, hs⟩ := hA.rel.slots t sv ht
        exact ⟨u, hu, hs.le g1.le⟩
      rw [put_act]
      refine ih _ m' (Env.put ⟨e.slots, only (x.n :: x.wr) e'.objs ++ without (x.n :: x.wr) e.objs, e.next⟩ o.dst x.sv) _ hleft ⟨by simp [hA.size], hR1.put (hdst o (List.mem_of_getElem? hoa)) g4, slots' _ rfl, fun q => ?_, fun q hq => ?_, closed'⟩
      · rw [put_objs]
        simp only
        rw [find_mix]
        have hxi : (T.map wO)[i]? = some (wO x) := by rw [List.getElem?_map, hx]; rfl
        by_cases h : q ∈ x.n :: x.wr
        · rw [if_pos h]
          have : wO x q = some (find e'.objs q) := by
            unfold wO
            rw [if_pos ⟨hdid, h⟩, hout]
          rw [foldW_hit q (find e'.objs q) _ 0 _ i (wO x) hxi this (by rw [Nat.zero_add, hLset, if_pos rfl]) ?_]
          intro j f hlt hfj hLj
          rw [List.getElem?_map] at hfj
          cases hy : T[j]? with
          | none => rw [hy] at hfj; simp at hfj
          | some y =>
            rw [hy] at hfj
            simp only [Option.map_some, Option.some.injEq] at hfj
            subst hfj
            rw [Nat.zero_add, hLset, if_neg (by omega)] at hLj
            unfold wO
            rw [if_neg]
            intro hyd
            obtain ⟨anc, ha, hc⟩ := hC i j x y hlt hx hy hdid hyd.1
            rcases hc with hc | ⟨_, hc⟩
            · exact later j hLj anc ha hc
            · exact hc q (hwsub q h) hyd.2
        · rw [if_neg h, hA.objs q]
          refine foldW_congr q _ 0 _ _ rfl fun j f hfj hft => ?_
          rw [Nat.zero_add, hLset]
          by_cases hij : i = j
          · subst hij
            rw [hxi] at hfj
            obtain rfl := Option.some.inj hfj
            exfalso
            apply hft
            unfold wO
            rw [if_neg fun hh => h hh.2]
          · rw [if_neg hij]
      · rcases g1.D q hq with h | ⟨h, _⟩
        · rcases hA.names q h with h | ⟨j, hj, hjl, rfl⟩
          · exact .inl h
          · refine .inr ⟨j, hj, ?_, rfl⟩
            rw [hLset]
            by_cases hij : i = j
            · rw [if_pos hij]
            · rw [if_neg hij]; exact hjl
        · refine .inr ⟨i, hin, by rw [hLset, if_pos rfl], ?_⟩
          rw [h, hxn', hxn]
    · -- it is left out
      have hw : Region.wanted o (yielded ops tm) = false := by
        obtain ⟨g, want, p, s, sv, v, h1, h2, h3, hv, hsv', h5⟩ := guard hg
        rcases h5 with h5 | h5
        · subst h5
          have : v = .bool (!want) := hsv'
          subst this
          simp only [Region.wanted, h1, yielded_bool hall h2 h3 hv]
          cases want <;> rfl
        · subst h5
          obtain ⟨xs, e2, hxs⟩ := hsv'
          have : xs = [] := by cases xs with
            | nil => rfl
            | cons => exact absurd hxs (by simp [R2])
          subst this
          subst e2
          simp only [Region.wanted, h1, yielded_none hall h2 h3 hv]
          rfl
      simp only [hw, Bool.false_eq_true, if_false]
      rw [put_act]
      have hput := hA.rel.put (d := o.dst) (hdst o (List.mem_of_getElem? hoa)) (undef_sv (m := m))
      rw [← hsv] at hput
      refine ih _ m (e.put o.dst x.sv) _ hleft ⟨by simp [hA.size], hput, slots' e rfl, fun q => ?_, fun q hq => ?_, closed'⟩
      · rw [put_objs, hA.objs q]
        refine foldW_congr q _ 0 _ _ rfl fun j f hfj hft => ?_
        rw [Nat.zero_add, hLset]
        by_cases hij : i = j
        · subst hij
          rw [List.getElem?_map, hx] at hfj
          simp only [Option.map_some, Option.some.injEq] at hfj
          subst hfj
          exfalso
          apply hft
          unfold wO
          rw [if_neg fun hh => by rw [hdid] at hh; cases hh.1]
        · rw [if_neg hij]
      · rcases hA.names q hq with h | ⟨j, hj, hjl, rfl⟩
        · exact .inl h
        · refine .inr ⟨j, hj, ?_, rfl⟩
          rw [hLset]
          by_cases hij : i = j
          · rw [if_pos hij]
          · rw [if_neg hij]; exact hjl

theorem draw_sound (hΓ : TabOk P Γ) (hΔ : DelOk P w0 Δ) (hm : P.follows .mixedOrders = true) : DrawSound P w0 Γ Δ := by
  intro G0 N m e tm k id ρ ops K r Q hdst hok hR hf h hQ
  refine wp_region_any hm ?_
  obtain ⟨T, ef, g1, g2, g3, g4, g5, _, g7⟩ := trace (n0 := e.next) ops.toList 0 [] e (by simp) h
  have hok0 : ObjsOk w0 G0 m e.objs := by have := hR.ok; rwa [List.append_nil] at this
  have hle := le_drew m
  let m' : St := { m with w := m.w.drew }
  have hR' : Rel w0 G0 N [] m' e tm := hR.world hle (hR.ok.world hle hR.ok.base.drew (fun _ _ _ => rfl) (fun b hb => ⟨.inl hb, hR.ok.liveG b hb⟩) (fun b hb => ⟨.inl hb, hR.ok.liveH b hb⟩) (Nat.le_refl _) hR.ok.gh)
  have hw : ({ m.w with drawn := m.w.drawn + 1 } : World) = m'.w := rfl
  rw [hw]
  have hfalse : ∀ j, (Array.replicate ops.size false).getD j false = false := fun j => by
    simp only [Array.getD_eq_getD_getElem?, Array.getElem?_replicate]
    split <;> rfl
  refine any_sound (m := m') (w0 := w0) (G0 := G0) (N := N) hΓ hΔ rfl rfl hdst hok g1 (fun i i' x x' hlt hx hx' hd hd' => by simpa using g7 i i' x x' hlt hx hx' hd hd') ?_ ops.size _ e tm ?_ ⟨by simp, hR', fun t => ?_, fun i => ?_, fun i hi => .inl (hf i hi), fun j o _ hj => by rw [hfalse] at hj; cases hj⟩
  · intro m2 e2 tm2 hR2 hD2 hs2 ho2
    have e1 : find e2.slots = find ef.slots := by rw [g4]; funext t; exact hs2 t
    have e3 : find e2.objs = find ef.objs := by rw [g5]; funext i; exact ho2 i
    refine hQ m2 ef tm2 ⟨?_, fun _ _ _ => rfl, hR2.tms, fun t sv ht => hR2.slots t sv (by rw [e1]; exact ht)⟩ (fun i hi => ?_) g2
    · have := hR2.ok
      rw [List.append_nil] at this ⊢
      exact this.congr fun i => by rw [e3]
    · have := hD2 i hi
      rw [g3]
      simpa using this
  · unfold left
    have := List.length_filter_le (fun i => !(Array.replicate ops.size false).getD i true) (List.range ops.toList.length)
    simpa using this
  · rw [foldW_all_false (fun j _ => hfalse j)]
  · rw [foldW_all_false (fun j _ => hfalse j)]
end
end Go.Ev
end

section
/- A function. -/
set_option linter.unusedSimpArgs false
set_option linter.unusedVariables false
namespace Go.Ev
open Go.RowKit (Below)

section
variable {P : Program} {w0 : World} {G0 : Nat → Prop} {N : Nat} {Γ : Tab} {Δ : List (Nat × Con)} {A : Ann} {m : St} {e : Env} {tm : Array Value}

theorem capsTo_cp : ∀ (ts : List Ty) (x : dens ts) (l : List Value), CapsTo m.w m.G ts x l → (∀ b, b < m.w.heap.size → m.H b) → R2 (Cp m) (startCaps ts x) l
  | [], _, l, h, _ => by simp only [CapsTo] at h; subst h; trivial
  | t :: r, x, [], h, _ => by simp [CapsTo] at h
  | t :: r, x, v :: l, ⟨⟨b, o, cs, e1, hb, hc, hv⟩, h2⟩, hH => ⟨⟨b, o, cs, e1, hH b hb, hc, hv⟩, capsTo_cp r x.2 l h2 hH⟩
theorem startArgs_sound (hH : ∀ b, b < m.w.heap.size → m.H b) : ∀ (as : List AT) (x : ATs.den as) (l : List Value) (s : Nat) (e : Env), Args m.w m.G as x l → (∀ i v, l[i]? = some v → tm[s + i]? = some v) → Rel w0 G0 N [] m e tm → Fresh m e →
    Rel w0 G0 N [] m (startArgs e s as x) tm ∧ Fresh m (startArgs e s as x)
  | [], x, l, s, e, h, ht, hR, hf => ⟨hR, hf⟩
  | a :: r, x, [], s, e, h, ht, hR, hf => by simp [Args] at h
  | a :: r, x, v :: l, s, e, ⟨h1, h2⟩, ht, hR, hf => by
    have hs : tm[s]? = some v := ht 0 v rfl
    have key : ∃ sv, startArg e s a x.1 = e.set s sv ∧ Sv m sv v := by
      cases a with
      | val t =>
        obtain ⟨cs, hv, ha⟩ := h1
        exact ⟨_, rfl, sv_ofTy hv ha⟩
      | ptr t =>
        obtain ⟨b, o, cs, e1, hb, hc, hv⟩ := h1
        exact ⟨.one (.el t x.1 0), rfl, b, o, cs, by simpa using e1, hH b hb, hc, hv⟩
      | clo f ts =>
        obtain ⟨cv, e1, hc⟩ := h1
        exact ⟨.one (.clo f (startCaps ts x.1)), rfl, cv, e1, capsTo_cp ts x.1 cv hc hH⟩
    obtain ⟨sv, e1, hsv⟩ := key
    simp only [startArgs, e1]
    refine startArgs_sound hH r x.2 l (s + 1) _ h2 (fun i u hu => ?_) (hR.reset hs hsv) hf
    have := ht (i + 1) u (by simpa using hu)
    rwa [show s + 1 + i = s + (i + 1) from by omega]

/-- A result variable, read. -/
def resRun (tm : Array Value) : ResultVar → Sem Value
  | .tmp t => pure (tm.getD t undef)
  | .cell a t => do loadVar t (← asAddr (tm.getD a undef))
theorem results_eq (fn : Func) (tm : Array Value) : results fn tm = (do
    let vs ← fn.results.mapM (resRun tm)
    pure (if h : vs.size = 1 then vs[0] else .tuple vs)) := by
  unfold results
  congr 1
theorem run_mapM : ∀ (rs : List ResultVar) (l : List Value) (w : World), R2 (fun r v => (resRun tm r).run P w = .ok v w) rs l → (rs.mapM (resRun tm)).run P w = .ok l w
  | [], [], w, _ => by simp
  | r :: rs, v :: l, w, ⟨h1, h2⟩ => by
    have ih := run_mapM rs l w h2
    simp only [List.mapM_cons, Sem.run_bind, h1, Result.andThen_ok, ih, Sem.run_pure]
  | [], _ :: _, w, h => by simp [R2] at h
  | _ :: _, [], w, h => by simp [R2] at h
theorem results_run (fn : Func) {l : List Value} {w : World} (h : R2 (fun r v => (resRun tm r).run P w = .ok v w) fn.results.toList l) : (results fn tm).run P w = .ok (asRes l) w := by
  have h1 := run_mapM _ _ w h
  rw [results_eq, Array.mapM_eq_mapM_toList]
  simp only [Sem.run_bind, Sem.run_map, h1, Sem.run_pure, Result.andThen_ok]
  match l with
  | [] => simp [asRes]
  | [v] => simp [asRes]
  | a :: b :: r => simp [asRes]

theorem resOf1_sound (hΓ : TabOk P Γ) (hR : Rel w0 G0 N [] m e tm) {t : Ty} {r : ResultVar} {x : t.den} (h : resOf1 Γ e t r = some x) : ∃ v, (resRun tm r).run P m.w = .ok v m.w ∧ Res1 m.w (grown G0 w0 m.w) t x v := by
  have hok : ObjsOk w0 G0 m e.objs := by have := hR.ok; rwa [List.append_nil] at this
  have hob : ∀ i o, find e.objs i = some o → Ob m i o := fun i o hf => (hok.objs i o hf).2
  have hG : ∀ b, m.G b → grown G0 w0 m.w b := fun b hb => (hok.subG b hb).imp id fun h => ⟨h, hok.liveG b hb⟩
  have hRow : ∀ i T u xs a n c, find e.objs i = some (.row T u xs) → m.ν i = .slice (some a) n c → grown G0 w0 m.w a.block := by
    intro i T u xs a n c hf hν
    obtain ⟨_, _, h3, h4⟩ := hok.out i a.block (by simp [blk, hf, hν, Value.ownBlock])
    exact .inr ⟨h4, h3⟩
  cases r with
  | tmp s =>
    simp only [resOf1] at h
    cases hs : e.get s with
    | none => simp [hs] at h
    | some sv =>
      simp only [hs] at h
      obtain ⟨v, hv, hsv⟩ := hR.slots s sv hs
      obtain ⟨cs, h1, h2⟩ := decAll_val (st := false) hob hG (fun _ => hRow) h hsv
      exact ⟨v, by simp [resRun, Array.getD_eq_getD_getElem?, hv], cs, h1, h2⟩
  | cell s T =>
    simp only [resOf1] at h
    cases hf : find Γ T with
    | none => simp [hf] at h
    | some ti =>
      cases hs : e.get s with
      | none => simp [hf, hs] at h
      | some sv =>
        obtain ⟨v, hv, hsv⟩ := hR.slots s sv hs
        cases sv with
        | one y =>
          cases y with
          | loc id off =>
            cases off with
            | succ => simp [hf, hs] at h
            | zero =>
              simp only [hf, hs] at h
              cases ht : tyEq ti.ty t with
              | false => simp [ht] at h
              | true =>
                simp only [ht] at h
                have hty := tyEq_eq ht
                unfold varTy at h
                cases ho : find e.objs id with
                | none => simp [ho] at h
                | some o =>
                  cases o with
                  | var vs =>
                    simp only [ho] at h
                    obtain ⟨cs, U, hh, hr⟩ := hob id _ ho
                    have hval := decCells_val (st := false) hob hG (fun _ => hRow) h hr
                    obtain ⟨_, e1⟩ := hsv
                    obtain ⟨z, g1, g2⟩ := run_load' (hΓ T ti hf) (cells_of_heap hh) (by rw [hty]; exact hval.length)
                    rw [hty] at g2
                    refine ⟨z, ?_, cs, hval, g2⟩
                    rw [← g1]
                    simp [resRun, Array.getD_eq_getD_getElem?, hv, e1, asAddr, Instr.loadAt, Instr.sureAddr]
                  | _ => simp [ho] at h
          | _ => simp [hf, hs] at h
        | _ => simp [hf, hs] at h
theorem finish_sound (hΓ : TabOk P Γ) (hR : Rel w0 G0 N [] m e tm) : ∀ (res : List Ty) (rs : List ResultVar) (x : den1 res), finish Γ e res rs = some x →
    ∃ l, R2 (fun r v => (resRun tm r).run P m.w = .ok v m.w) rs l ∧ Ress m.w (grown G0 w0 m.w) res x l
  | [], [], x, h => ⟨[], trivial, rfl⟩
  | [t], [r], x, h => by
    simp only [finish] at h
    obtain ⟨v, h1, h2⟩ := resOf1_sound hΓ hR h
    exact ⟨[v], ⟨h1, trivial⟩, v, rfl, h2⟩
  | t :: u :: l, r :: rs, x, h => by
    simp only [finish] at h
    cases h1 : resOf1 Γ e t r with
    | none => simp [h1] at h
    | some y =>
      cases h2 : finish Γ e (u :: l) rs with
      | none => simp [h1, h2] at h
      | some z =>
        simp only [h1, h2, Option.some.injEq] at h
        subst h
        obtain ⟨v, g1, g2⟩ := resOf1_sound hΓ hR h1
        obtain ⟨vs, g3, g4⟩ := finish_sound hΓ hR (u :: l) rs z h2
        exact ⟨v :: vs, ⟨g1, g3⟩, v, vs, rfl, g2, g4⟩
  | [], _ :: _, x, h => by simp [finish] at h
  | [_], [], x, h => by simp [finish] at h
  | [_], _ :: _ :: _, x, h => by simp [finish] at h
  | _ :: _ :: _, [], x, h => by simp [finish] at h

theorem args_length : ∀ {as : List AT} {x : ATs.den as} {l : List Value} {w : World} {G : Nat → Prop}, Args w G as x l → l.length = as.length
  | [], x, l, w, G, h => by simp only [Args] at h; subst h; rfl
  | a :: r, x, [], w, G, h => by simp [Args] at h
  | a :: r, x, v :: l, w, G, ⟨_, h⟩ => by simp [args_length h]

/-- THE FUNCTION KEEPS ITS CONTRACT. -/
theorem fn_sound (hΓ : TabOk P Γ) (hΔ : DelOk P w0 Δ) (hD : ∀ {w : World}, Below w0.heap.size w0 w → DrawSound P w Γ Δ) {f : Nat} {fn : Func} (hf : P.funcs[f]? = some fn) {c : Con} (hok : (match fn.body with
      | some b => codeDst fn.ntmps b && Nat.ble c.args.length fn.ntmps
      | none => false) = true) (heq : ∀ k x, c.fn k x = evFn Γ Δ A fn c.args c.res k x) : ConOk P w0 f c := by
  intro k x r w G args hbw hG hr hargs
  rw [heq] at hr
  unfold evFn at hr
  cases hb : fn.body with
  | none => simp [hb] at hr
  | some b =>
    rw [hb] at hr hok
    simp only [Bool.and_eq_true] at hr hok
    obtain ⟨hdst, hn⟩ := hok
    have hn := Nat.le_of_ble_eq_true hn
    have hlen := args_length hargs
    refine calls_of_wp hf hb ?_
    generalize htm : args.toArray ++ Array.replicate (fn.ntmps - args.toArray.size) undef = tm
    have hsize : tm.size = fn.ntmps := by rw [← htm]; simp; omega
    let m : St := ⟨w, G, fun b => b < w.heap.size, fun _ => 0, fun _ => .bool true, fun _ => False⟩
    have hok0 : ObjsOk w G m [] := ⟨.refl _ _, fun i o hf => by simp [find] at hf, fun i j b hb => by simp [blk, find] at hb, fun i b hb => by simp [blk, find] at hb, hG, fun b hb => hb, fun b hb => .inl hb, hG⟩
    have hR0 : Rel w G fn.ntmps [] m ⟨[], [], 0⟩ tm := ⟨hok0, fun i o hf => by simp [find] at hf, hsize, fun t sv hf => by simp [find] at hf⟩
    obtain ⟨hR, hfr⟩ := startArgs_sound (m := m) (tm := tm) (fun b hb => hb) c.args x args 0 ⟨[], [], 0⟩ hargs (fun i v hv => by
      rw [← htm]
      have hi : i < args.length := (List.getElem?_eq_some_iff.1 hv).1
      simp [Array.getElem?_append, hi]
      exact (List.getElem?_eq_some_iff.1 hv).2) hR0 fun i hi => hi.elim
    refine wp_mono (code_sound hΓ (hΔ.later hbw) (hD hbw) b hdst k some _ _ r m tm hR hfr hr) ?_
    intro ex a w' hp
    have fini : ∀ (m' : St) (e' : Env), Rel w G fn.ntmps [] m' e' a.tmps → finish Γ e' c.res fn.results.toList = some r → ∃ v, (results fn a.tmps).run P m'.w = .ok v m'.w ∧ ∃ l, Ending.returned v = .returned (asRes l) ∧ Below w.heap.size w m'.w ∧ Ress m'.w (grown G w m'.w) c.res r l := by
      intro m' e' hR' hfin
      obtain ⟨l, g1, g2⟩ := finish_sound hΓ hR' _ _ _ hfin
      exact ⟨asRes l, results_run fn g1, l, rfl, hR'.ok.base, g2⟩
    cases ex with
    | normal =>
      obtain ⟨m', e', rfl, hd', hR', _, hK⟩ := hp
      exact ⟨hd', fini m' e' hR' hK⟩
    | ret =>
      obtain ⟨m', e', z, rfl, hd', hR', hz, he⟩ := hp
      obtain rfl := Option.some.inj he
      exact ⟨hd', fini m' e' hR' hz⟩
    | exit i =>
      obtain ⟨m', e', _, _, _, _, hK⟩ := hp
      simp at hK
    | _ => exact hp.elim
end
end Go.Ev
end

section
/- What a claim's own texts use. -/
set_option linter.unusedSimpArgs false
set_option linter.unusedVariables false
namespace Go.Ev

section
variable {P : Program} {Γ : Tab} {Δ : List (Nat × Con)}
theorem DelOk.nil {w0 : World} : DelOk P w0 [] := fun f c h => by simp at h
theorem DelOk.cons {w0 : World} {f : Nat} {c : Con} (h : ConOk P w0 f c) (he : Enters' P f) (hd : DelOk P w0 Δ) : DelOk P w0 ((f, c) :: Δ) := by
  intro g d hm
  rcases List.mem_cons.1 hm with e | e
  · cases e; exact ⟨h, he⟩
  · exact hd g d e
theorem enters' {f : Nat} {fn : Func} (hf : P.funcs[f]? = some fn) (h : (!(fn.name == "runtime.NumGoroutine") && fn.body.isSome) = true) : Enters' P f := by
  intro args w
  simp only [Bool.and_eq_true, Bool.not_eq_true'] at h
  obtain ⟨h1, h2⟩ := h
  have h3 : fn.name ≠ "runtime.NumGoroutine" := by simpa using h1
  cases hb : fn.body with
  | none => rw [hb] at h2; simp at h2
  | some b => simp [callFunc, hf, h3, hb, mark]
theorem draws_of {w0 : World} (hΓ : TabOk P Γ) (hΔ : DelOk P w0 Δ) (hm : P.follows .mixedOrders = true) {w : World} (hb : Go.RowKit.Below w0.heap.size w0 w) : DrawSound P w Γ Δ := draw_sound hΓ (hΔ.later hb) hm
theorem tab_of (h : tabOk P Γ Γ = true) : TabOk P Γ := tabOk_ok h

/-! ### what the equations are made of -/
theorem br_true {ρ : Type} (x y : Option ρ) : br true x y = x := rfl
theorem br_false {ρ : Type} (x y : Option ρ) : br false x y = y := rfl
theorem bnd_none {α ρ : Type} (f : α → Option ρ) : bnd none f = none := rfl
theorem bnd_some' {α ρ : Type} (y : α) (f : α → Option ρ) : bnd (some y) f = f y := rfl
theorem chk_true {ρ : Type} (x : Option ρ) : chk true x = x := rfl
theorem onSum_inl {α ρ σ : Type} (y : α) (f : α → Option σ) (g : ρ → Option σ) : onSum (.inl y : α ⊕ ρ) f g = f y := rfl
theorem onSum_inr {α ρ σ : Type} (z : ρ) (f : α → Option σ) (g : ρ → Option σ) : onSum (.inr z : α ⊕ ρ) f g = g z := rfl
end
end Go.Ev
end

section
/- Loops over lists, out of their equations. -/
set_option linter.unusedSimpArgs false
set_option linter.unusedVariables false
namespace Go.Ev

theorem wrap_eq {x : Int} (h1 : -9223372036854775808 ≤ x) (h2 : x ≤ 9223372036854775807) : IntKind.i64.wrap x = x := by
  rw [IntKind.wrap_i64]; omega

theorem br_if {ρ : Type} (p : Prop) [Decidable p] (x y : Option ρ) : br (decide p) x y = if p then x else y := by
  by_cases h : p
  · rw [if_pos h, decide_eq_true h]; rfl
  · rw [if_neg h, decide_eq_false h]; rfl
theorem br_b {ρ : Type} (b : Bool) (x y : Option ρ) : br b x y = if b = true then x else y := by cases b <;> rfl
theorem br_pos {ρ : Type} {p : Prop} [Decidable p] (h : p) (x y : Option ρ) : br (decide p) x y = x := by rw [br_if, if_pos h]
theorem br_neg {ρ : Type} {p : Prop} [Decidable p] (h : ¬ p) (x y : Option ρ) : br (decide p) x y = y := by rw [br_if, if_neg h]

/-- a list, element by element: on with a new state, or out -/
def foldE {α S R X : Type} (g : Nat → α → S → S ⊕ R) (fin : S → X) (out : R → X) : List α → Nat → S → X
  | [], _, s => fin s
  | x :: r, i, s => match g i x s with
    | .inl s' => foldE g fin out r (i + 1) s'
    | .inr r => out r

/-- A loop that counts its way along a list. -/
theorem list_loop {α S R X : Type} (xs : List α) (z : α) (L : Nat → S → Int → Option X) (g : Nat → α → S → S ⊕ R) (fin : S → X) (out : R → X) (K : Nat) (I : Nat → S → Prop)
    (hstep : ∀ k (i : Nat) s, K ≤ k → i < xs.length → I i s → L (k + 1) s (i : Int) = (match g i (xs.getD i z) s with
      | .inl s' => L k s' ((i + 1 : Nat) : Int)
      | .inr r => some (out r)) ∧ ∀ s', g i (xs.getD i z) s = .inl s' → I (i + 1) s')
    (hend : ∀ k s, K ≤ k → I xs.length s → L (k + 1) s (xs.length : Int) = some (fin s)) :
    ∀ (n i : Nat) (s : S) (k : Nat), n + i = xs.length → K + n + 1 ≤ k → I i s → L k s (i : Int) = some (foldE g fin out (xs.drop i) i s)
  | 0, i, s, k, hn, hk, hI => by
    obtain ⟨k, rfl⟩ : ∃ k', k = k' + 1 := ⟨k - 1, by omega⟩
    have hi : i = xs.length := by omega
    subst hi
    rw [hend k s (by omega) hI, List.drop_length]
    rfl
  | n + 1, i, s, k, hn, hk, hI => by
    obtain ⟨k, rfl⟩ : ∃ k', k = k' + 1 := ⟨k - 1, by omega⟩
    have hi : i < xs.length := by omega
    obtain ⟨h1, h2⟩ := hstep k i s (by omega) hi hI
    have hd : xs.drop i = xs.getD i z :: xs.drop (i + 1) := by
      rw [List.drop_eq_getElem_cons hi]
      simp [List.getD_eq_getElem?_getD, hi]
    rw [h1, hd]
    simp only [foldE]
    cases hg : g i (xs.getD i z) s with
    | inl s' =>
      simp only
      exact list_loop xs z L g fin out K I hstep hend n (i + 1) s' k (by omega) (by omega) (h2 s' hg)
    | inr r => rfl
theorem list_loop0 {α S R X : Type} {xs : List α} (z : α) {L : Nat → S → Int → Option X} (g : Nat → α → S → S ⊕ R) (fin : S → X) (out : R → X) (K : Nat) (I : Nat → S → Prop)
    (hstep : ∀ k (i : Nat) s, K ≤ k → i < xs.length → I i s → L (k + 1) s (i : Int) = (match g i (xs.getD i z) s with
      | .inl s' => L k s' ((i + 1 : Nat) : Int)
      | .inr r => some (out r)) ∧ ∀ s', g i (xs.getD i z) s = .inl s' → I (i + 1) s')
    (hend : ∀ k s, K ≤ k → I xs.length s → L (k + 1) s (xs.length : Int) = some (fin s)) {s : S} {k : Nat} (hk : K + xs.length + 1 ≤ k) (hI : I 0 s) : L k s 0 = some (foldE g fin out xs 0 s) := by
  have := list_loop xs z L g fin out K I hstep hend xs.length 0 s k (by omega) hk hI
  simpa using this
end Go.Ev
end

section
/- What an equation with fuel comes to, fuel enough. -/
set_option linter.unusedSimpArgs false
set_option linter.unusedVariables false
namespace Go.Ev

/-- With fuel enough, f is v. -/
def Lim {X : Type} (f : Nat → Option X) (v : Option X) : Prop := ∃ k0, ∀ k, k0 ≤ k → f k = v
section
variable {X Y Z : Type}
theorem lim_const (v : Option X) : Lim (fun _ => v) v := ⟨0, fun _ _ => rfl⟩
theorem lim_bnd {m : Nat → Option Y} {M : Option Y} {f : Nat → Y → Option X} {F : Y → Option X} (h : Lim m M) (hf : ∀ y, Lim (fun k => f k y) (F y)) : Lim (fun k => bnd (m k) (fun y => f k y)) (bnd M F) := by
  obtain ⟨k1, h1⟩ := h
  cases M with
  | none => exact ⟨k1, fun k hk => by simp only [h1 k hk]; rfl⟩
  | some y =>
    obtain ⟨k2, h2⟩ := hf y
    exact ⟨max k1 k2, fun k hk => by simp only [h1 k (by omega)]; exact h2 k (by omega)⟩
theorem lim_br {b : Bool} {f g : Nat → Option X} {F G : Option X} (hf : Lim f F) (hg : Lim g G) : Lim (fun k => br b (f k) (g k)) (br b F G) := by
  cases b
  · exact hg
  · exact hf
theorem lim_onSum {r : Y ⊕ Z} {f : Nat → Y → Option X} {F : Y → Option X} {g : Nat → Z → Option X} {G : Z → Option X} (hf : ∀ y, Lim (fun k => f k y) (F y)) (hg : ∀ z, Lim (fun k => g k z) (G z)) : Lim (fun k => onSum r (fun y => f k y) (fun z => g k z)) (onSum r F G) := by
  cases r with
  | inl y => exact hf y
  | inr z => exact hg z
theorem lim_succ {f : Nat → Option X} {v : Option X} (h : Lim (fun k => f (k + 1)) v) : Lim f v := by
  obtain ⟨k0, hk⟩ := h
  refine ⟨k0 + 1, fun k h => ?_⟩
  obtain ⟨j, rfl⟩ : ∃ j, k = j + 1 := ⟨k - 1, by omega⟩
  exact hk j (by omega)
theorem lim_eq {f g : Nat → Option X} {v : Option X} (h : Lim g v) (e : ∀ k, f k = g k) : Lim f v := by
  obtain ⟨k0, hk⟩ := h
  exact ⟨k0, fun k hk' => (e k).trans (hk k hk')⟩
theorem lim_some {f : Nat → Option X} {v : X} (h : Lim f (some v)) : ∃ k, f k = some v := by
  obtain ⟨k0, hk⟩ := h
  exact ⟨k0, hk k0 (Nat.le_refl _)⟩

/-- A loop that counts: n rounds still to go. -/
def forN {S : Type} (B : Int → S → (S → Option X) → Option X) (E : S → Option X) : Nat → Nat → S → Option X
  | 0, _, s => E s
  | n + 1, i, s => B (i : Int) s (forN B E n (i + 1))
theorem lim_for {S : Type} {L : Nat → S → Int → Option X} {B : Int → S → (S → Option X) → Option X} {E : S → Option X} (len : Nat) (hlen : len ≤ 4611686018427387904)
    (hB : ∀ (i : Nat) s, i < len → ∀ C : S → Option X, (∀ s, Lim (fun k => L k s (IntKind.i64.wrap ((i : Int) + 1))) (C s)) → Lim (fun k => L (k + 1) s (i : Int)) (B i s C)) (hE : ∀ s, Lim (fun k => L (k + 1) s (len : Int)) (E s)) :
    ∀ (n i : Nat) (s : S), n + i = len → Lim (fun k => L k s (i : Int)) (forN B E n i s)
  | 0, i, s, h => by
    have : i = len := by omega
    subst this
    exact lim_succ (hE s)
  | n + 1, i, s, h => by
    refine lim_succ (hB i s (by omega) _ fun s' => ?_)
    have := lim_for len hlen hB hE n (i + 1) s' (by omega)
    rw [wrap_eq (by omega) (by omega)]
    exact this
theorem lim_for0 {S : Type} {L : Nat → S → Int → Option X} {B : Int → S → (S → Option X) → Option X} {E : S → Option X} (len : Nat) (hlen : len ≤ 4611686018427387904)
    (hB : ∀ (i : Nat) s, i < len → ∀ C : S → Option X, (∀ s, Lim (fun k => L k s (IntKind.i64.wrap ((i : Int) + 1))) (C s)) → Lim (fun k => L (k + 1) s (i : Int)) (B i s C)) (hE : ∀ s, Lim (fun k => L (k + 1) s (len : Int)) (E s)) (s : S) :
    Lim (fun k => L k s 0) (forN B E len 0 s) := lim_for len hlen hB hE len 0 s (by omega)
theorem lim_br' {b : Bool} {f g : Nat → Option X} {F G : Option X} (hf : b = true → Lim f F) (hg : b = false → Lim g G) : Lim (fun k => br b (f k) (g k)) (br b F G) := by
  cases b
  · exact hg rfl
  · exact hf rfl
/-- A loop that counts below a bound: n rounds at the most. -/
def forF {S : Type} (B : Int → S → (S → Option X) → Option X) : Nat → Nat → S → Option X
  | 0, _, _ => none
  | n + 1, i, s => B (i : Int) s (forF B n (i + 1))
theorem lim_forF {S : Type} {L : Nat → S → Int → Option X} {B : Int → S → (S → Option X) → Option X} (bound : Int) (hb : bound ≤ 4611686018427387904)
    (hB : ∀ (i : Nat) s, ∀ C : S → Option X, (∀ s, (i : Int) < bound → Lim (fun k => L k s (IntKind.i64.wrap ((i : Int) + 1))) (C s)) → Lim (fun k => L (k + 1) s (i : Int)) (B i s C)) :
    ∀ (n i : Nat) (s : S), 0 < n → bound - i < n → Lim (fun k => L k s (i : Int)) (forF B n i s)
  | 0, i, s, h, _ => absurd h (by omega)
  | n + 1, i, s, _, h => by
    refine lim_succ (hB i s _ fun s' hi => ?_)
    rw [wrap_eq (by omega) (by omega)]
    exact lim_forF bound hb hB n (i + 1) s' (by omega) (by omega)
theorem lim_forF0 {S : Type} {L : Nat → S → Int → Option X} {B : Int → S → (S → Option X) → Option X} (bound : Int) (hb : bound ≤ 4611686018427387904)
    (hB : ∀ (i : Nat) s, ∀ C : S → Option X, (∀ s, (i : Int) < bound → Lim (fun k => L k s (IntKind.i64.wrap ((i : Int) + 1))) (C s)) → Lim (fun k => L (k + 1) s (i : Int)) (B i s C)) (s : S) :
    Lim (fun k => L k s 0) (forF B (bound.toNat + 1) 0 s) := lim_forF bound hb hB _ 0 s (by omega) (by omega)
/-- What is known of an answer, if there is one. -/
def Holds (m : Option Y) (p : Y → Prop) : Prop := ∀ y, m = some y → p y
theorem holds_br {b : Bool} {x y : Option Y} {p : Y → Prop} (hx : Holds x p) (hy : Holds y p) : Holds (br b x y) p := by
  cases b
  · exact hy
  · exact hx
theorem holds_bnd {m : Option Z} {f : Z → Option Y} {p : Y → Prop} (h : ∀ z, Holds (f z) p) : Holds (bnd m f) p := by
  cases m with
  | none => intro y hy; simp [bnd] at hy
  | some z => exact h z
theorem holds_onSum {W : Type} {r : Z ⊕ W} {f : Z → Option Y} {g : W → Option Y} {p : Y → Prop} (hf : ∀ z, Holds (f z) p) (hg : ∀ z, Holds (g z) p) : Holds (onSum r f g) p := by
  cases r with
  | inl z => exact hf z
  | inr z => exact hg z
theorem holds_none {p : Y → Prop} : Holds none p := fun y h => by cases h
theorem holds_some {p : Y → Prop} {x : Y} (h : p x) : Holds (some x) p := fun y e => by cases e; exact h
theorem holds_forF {S : Type} {B : Int → S → (S → Option X) → Option X} {p : X → Prop} (h : ∀ i s C, (∀ s, Holds (C s) p) → Holds (B i s C) p) : ∀ n i s, Holds (forF B n i s) p
  | 0, _, _ => holds_none
  | n + 1, i, s => h i s _ fun s' => holds_forF h n (i + 1) s'
/-- bind, where something is known of what comes first -/
theorem lim_bndP {m : Nat → Option Y} {M : Option Y} {f : Nat → Y → Option X} {F : Y → Option X} (p : Y → Prop) (h : Lim m M) (hp : Holds M p) (hf : ∀ y, p y → Lim (fun k => f k y) (F y)) : Lim (fun k => bnd (m k) (fun y => f k y)) (bnd M F) := by
  obtain ⟨k1, h1⟩ := h
  cases M with
  | none => exact ⟨k1, fun k hk => by simp only [h1 k hk]; rfl⟩
  | some y =>
    obtain ⟨k2, h2⟩ := hf y (hp y rfl)
    exact ⟨max k1 k2, fun k hk => by simp only [h1 k (by omega)]; exact h2 k (by omega)⟩
theorem lim_onSum' {r : Y ⊕ Z} {f : Nat → Y → Option X} {F : Y → Option X} {g : Nat → Z → Option X} {G : Z → Option X} (hf : ∀ y, r = .inl y → Lim (fun k => f k y) (F y)) (hg : ∀ z, r = .inr z → Lim (fun k => g k z) (G z)) : Lim (fun k => onSum r (fun y => f k y) (fun z => g k z)) (onSum r F G) := by
  cases r with
  | inl y => exact hf y rfl
  | inr z => exact hg z rfl
end
end Go.Ev
end

section
/- What an equation with fuel comes to, fuel enough: one way only. -/
set_option linter.unusedSimpArgs false
set_option linter.unusedVariables false
namespace Go.Ev
/-- Where v is an answer, f gives it, with fuel enough. -/
def Lm {X : Type} (f : Nat → Option X) (v : Option X) : Prop := ∀ r, v = some r → ∃ k0, ∀ k, k0 ≤ k → f k = some r
section
variable {X Y Z : Type}
theorem lm_const (v : Option X) : Lm (fun _ => v) v := fun r h => ⟨0, fun _ _ => h⟩
theorem lm_none (f : Nat → Option X) : Lm f none := fun r h => by cases h
theorem lm_bnd {m : Nat → Option Y} {M : Option Y} {f : Nat → Y → Option X} {F : Y → Option X} (h : Lm m M) (hf : ∀ y, Lm (fun k => f k y) (F y)) : Lm (fun k => bnd (m k) (fun y => f k y)) (bnd M F) := by
  intro r hr
  obtain ⟨y, hy, hr⟩ := bnd_some hr
  obtain ⟨k1, h1⟩ := h y hy
  obtain ⟨k2, h2⟩ := hf y r hr
  exact ⟨max k1 k2, fun k hk => by simp only [h1 k (by omega)]; exact h2 k (by omega)⟩
theorem lm_br {b : Bool} {f g : Nat → Option X} {F G : Option X} (hf : Lm f F) (hg : Lm g G) : Lm (fun k => br b (f k) (g k)) (br b F G) := by
  cases b
  · exact hg
  · exact hf
theorem lm_onSum {r : Y ⊕ Z} {f : Nat → Y → Option X} {F : Y → Option X} {g : Nat → Z → Option X} {G : Z → Option X} (hf : ∀ y, Lm (fun k => f k y) (F y)) (hg : ∀ z, Lm (fun k => g k z) (G z)) : Lm (fun k => onSum r (fun y => f k y) (fun z => g k z)) (onSum r F G) := by
  cases r with
  | inl y => exact hf y
  | inr z => exact hg z
theorem lm_eq {f g : Nat → Option X} {v : Option X} (h : Lm g v) (e : ∀ k, f k = g k) : Lm f v := fun r hr => by
  obtain ⟨k0, hk⟩ := h r hr
  exact ⟨k0, fun k hk' => (e k).trans (hk k hk')⟩
theorem lm_some {f : Nat → Option X} {v : X} (h : Lm f (some v)) : ∃ k, f k = some v := by
  obtain ⟨k0, hk⟩ := h v rfl
  exact ⟨k0, hk k0 (Nat.le_refl _)⟩
/-- A loop, n rounds at the most. -/
def forG {S : Type} (B : S → (S → Option X) → Option X) : Nat → S → Option X
  | 0, _ => none
  | n + 1, s => B s (forG B n)
theorem lm_forG {S : Type} {L : Nat → S → Option X} {B : S → (S → Option X) → Option X} (hB : ∀ s (C : S → Option X), (∀ s, Lm (fun k => L k s) (C s)) → Lm (fun k => L (k + 1) s) (B s C)) : ∀ n s, Lm (fun k => L k s) (forG B n s)
  | 0, s => lm_none _
  | n + 1, s => fun r hr => by
    obtain ⟨k0, hk⟩ := hB s _ (lm_forG hB n) r hr
    refine ⟨k0 + 1, fun k h => ?_⟩
    obtain ⟨j, rfl⟩ : ∃ j, k = j + 1 := ⟨k - 1, by omega⟩
    exact hk j (by omega)
end
end Go.Ev
end

section
/- Rounds along a list. -/
set_option linter.unusedSimpArgs false
set_option linter.unusedVariables false
namespace Go.Ev
theorem forG_fold {α S R X T : Type} (xs : List α) (z : α) {B : T → (T → Option X) → Option X} (emb : Int → S → T) (g : Nat → α → S → S ⊕ R) (fin : S → X) (out : R → X) (I : Nat → S → Prop)
    (hstep : ∀ (i : Nat) s C, i < xs.length → I i s → B (emb (i : Int) s) C = (match g i (xs.getD i z) s with
      | .inl s' => C (emb ((i + 1 : Nat) : Int) s')
      | .inr r => some (out r)) ∧ ∀ s', g i (xs.getD i z) s = .inl s' → I (i + 1) s')
    (hend : ∀ s C, I xs.length s → B (emb (xs.length : Int) s) C = some (fin s)) :
    ∀ (n i : Nat) (s : S), i ≤ xs.length → xs.length < n + i → I i s → forG B n (emb (i : Int) s) = some (foldE g fin out (xs.drop i) i s)
  | 0, i, s, h1, h2, _ => absurd h1 (by omega)
  | n + 1, i, s, h1, h2, hI => by
    simp only [forG]
    by_cases hi : i < xs.length
    · obtain ⟨e1, e2⟩ := hstep i s (forG B n) hi hI
      have hd : xs.drop i = xs.getD i z :: xs.drop (i + 1) := by
        rw [List.drop_eq_getElem_cons hi]
        simp [List.getD_eq_getElem?_getD, hi]
      rw [e1, hd]
      simp only [foldE]
      cases hg : g i (xs.getD i z) s with
      | inl s' => exact forG_fold xs z emb g fin out I hstep hend n (i + 1) s' (by omega) (by omega) (e2 s' hg)
      | inr r => rfl
    · have : i = xs.length := by omega
      subst this
      rw [hend s _ hI, List.drop_length]
      rfl
theorem forG_fold0 {α S R X T : Type} {xs : List α} (z : α) {B : T → (T → Option X) → Option X} (emb : Int → S → T) (g : Nat → α → S → S ⊕ R) (fin : S → X) (out : R → X) (I : Nat → S → Prop)
    (hstep : ∀ (i : Nat) s C, i < xs.length → I i s → B (emb (i : Int) s) C = (match g i (xs.getD i z) s with
      | .inl s' => C (emb ((i + 1 : Nat) : Int) s')
      | .inr r => some (out r)) ∧ ∀ s', g i (xs.getD i z) s = .inl s' → I (i + 1) s')
    (hend : ∀ s C, I xs.length s → B (emb (xs.length : Int) s) C = some (fin s)) {n : Nat} {s : S} (hn : xs.length < n) (hI : I 0 s) : forG B n (emb 0 s) = some (foldE g fin out xs 0 s) := by
  have := forG_fold xs z emb g fin out I hstep hend n 0 s (Nat.zero_le _) (by omega) hI
  simpa using this
theorem foldE_onSum {α S R A C Y : Type} (g : Nat → α → S → S ⊕ R) (fin : S → A) (out : R → C) (f : A → Option Y) (h : C → Option Y) : ∀ (xs : List α) (i : Nat) (s : S),
    onSum (foldE g (fun s => (.inl (fin s) : A ⊕ C)) (fun r => .inr (out r)) xs i s) f h = foldE g (fun s => f (fin s)) (fun r => h (out r)) xs i s
  | [], _, _ => rfl
  | x :: r, i, s => by
    simp only [foldE]
    cases g i x s with
    | inl s' => exact foldE_onSum g fin out f h r (i + 1) s'
    | inr r => rfl
theorem foldE_map {α S R X Y : Type} (g : Nat → α → S → S ⊕ R) (fin : S → X) (out : R → X) (h : X → Y) : ∀ (xs : List α) (i : Nat) (s : S), foldE g (fun s => h (fin s)) (fun r => h (out r)) xs i s = h (foldE g fin out xs i s)
  | [], _, _ => rfl
  | x :: r, i, s => by
    simp only [foldE]
    cases g i x s with
    | inl s' => exact foldE_map g fin out h r (i + 1) s'
    | inr r => rfl
end Go.Ev
end

section
/- What a piece of a function answers: one thing where P holds, another where not. -/
set_option linter.unusedSimpArgs false
set_option linter.unusedVariables false
namespace Go.Ev
def Ans {X : Type} (m yes no : Option X) (P : Prop) : Prop := (P → m = yes) ∧ (¬ P → m = no)
section
variable {X Y A B : Type} {m x y yes no : Option X} {P Q R c : Prop} [Decidable c]
theorem ans_yes : Ans yes yes no True := ⟨fun _ => rfl, fun h => absurd trivial h⟩
theorem ans_end (h : m = yes) : Ans m yes no True := ⟨fun _ => h, fun h' => absurd trivial h'⟩
theorem ans_no : Ans no yes no False := ⟨fun h => h.elim, fun _ => rfl⟩
theorem ans_iff (h : Ans m yes no P) (e : P ↔ Q) : Ans m yes no Q := ⟨fun q => h.1 (e.2 q), fun q => h.2 fun p => q (e.1 p)⟩
theorem ans_dec {b : Bool} : Ans (some b) (some true) (some false) (b = true) := by cases b <;> exact ⟨fun h => by simp at h ⊢, fun h => by simp at h ⊢⟩
theorem ans_decide : Ans (some (decide c)) (some true) (some false) c := ⟨fun h => by rw [decide_eq_true h], fun h => by rw [decide_eq_false h]⟩
theorem ans_ndecide : Ans (some (!decide c)) (some true) (some false) (¬ c) := ⟨fun h => by rw [decide_eq_false h]; rfl, fun h => by rw [decide_eq_true (Classical.not_not.1 h)]; rfl⟩
theorem ans_chk (hc : c) (h : Ans x yes no P) : Ans (br (decide c) x y) yes no P := by rw [br_pos hc]; exact h
theorem ans_chkn (hc : ¬ c) (h : Ans y yes no P) : Ans (br (decide c) x y) yes no P := by rw [br_neg hc]; exact h
theorem ans_br_no (h : ¬ c → Ans x yes no P) : Ans (br (decide c) no x) yes no (¬ c ∧ P) := by
  by_cases hc : c
  · rw [br_pos hc]; exact ⟨fun h => absurd hc h.1, fun _ => rfl⟩
  · rw [br_neg hc]; exact ans_iff (h hc) ⟨fun h => ⟨hc, h⟩, fun h => h.2⟩
theorem ans_br_no' (h : c → Ans x yes no P) : Ans (br (decide c) x no) yes no (c ∧ P) := by
  by_cases hc : c
  · rw [br_pos hc]; exact ans_iff (h hc) ⟨fun h => ⟨hc, h⟩, fun h => h.2⟩
  · rw [br_neg hc]; exact ⟨fun h => absurd h.1 hc, fun _ => rfl⟩
theorem ans_br_yes (h : ¬ c → Ans x yes no P) : Ans (br (decide c) yes x) yes no (c ∨ P) := by
  by_cases hc : c
  · rw [br_pos hc]; exact ⟨fun _ => rfl, fun h => absurd (.inl hc) h⟩
  · rw [br_neg hc]; exact ans_iff (h hc) ⟨.inr, fun h => h.resolve_left hc⟩
theorem ans_br_yes' (h : c → Ans x yes no P) : Ans (br (decide c) x yes) yes no (c → P) := by
  by_cases hc : c
  · rw [br_pos hc]; exact ans_iff (h hc) ⟨fun h _ => h, fun h => h hc⟩
  · rw [br_neg hc]; exact ⟨fun _ => rfl, fun h => absurd (fun h' => absurd h' hc) h⟩
theorem ans_br (h : c → Ans x yes no P) (k : ¬ c → Ans y yes no Q) : Ans (br (decide c) x y) yes no ((c → P) ∧ (¬ c → Q)) := by
  by_cases hc : c
  · rw [br_pos hc]; exact ans_iff (h hc) ⟨fun h => ⟨fun _ => h, fun h' => absurd hc h'⟩, fun h => h.1 hc⟩
  · rw [br_neg hc]; exact ans_iff (k hc) ⟨fun h => ⟨fun h' => absurd h' hc, fun _ => h⟩, fun h => h.2 hc⟩
theorem ans_brt (h : Ans x yes no P) : Ans (br true x y) yes no P := h
theorem ans_brf (h : Ans y yes no P) : Ans (br false x y) yes no P := h
theorem br_swap (b : Bool) (x y : Option X) : br (!b) x y = br b y x := by cases b <;> rfl
theorem br_bool (b : Bool) (x y : Option X) : br b x y = br (decide (b = true)) x y := by cases b <;> rfl
theorem ans_bool_no {b : Bool} (h : ¬ b = true → Ans x yes no P) : Ans (br b no x) yes no (¬ b = true ∧ P) := by rw [br_bool]; exact ans_br_no h
theorem ans_bool_no' {b : Bool} (h : b = true → Ans x yes no P) : Ans (br b x no) yes no (b = true ∧ P) := by rw [br_bool]; exact ans_br_no' h
theorem ans_bool_yes {b : Bool} (h : ¬ b = true → Ans x yes no P) : Ans (br b yes x) yes no (b = true ∨ P) := by rw [br_bool]; exact ans_br_yes h
theorem ans_bool_yes' {b : Bool} (h : b = true → Ans x yes no P) : Ans (br b x yes) yes no (b = true → P) := by rw [br_bool]; exact ans_br_yes' h
theorem ans_bool {b : Bool} (h : b = true → Ans x yes no P) (k : ¬ b = true → Ans y yes no Q) : Ans (br b x y) yes no ((b = true → P) ∧ (¬ b = true → Q)) := by rw [br_bool]; exact ans_br h k
theorem ans_bnd {mm : Option Y} {a b : Y} {f : Y → Option X} (h : Ans mm (some a) (some b) P) (h1 : P → Ans (f a) yes no Q) (h2 : ¬ P → Ans (f b) yes no R) : Ans (bnd mm f) yes no ((P → Q) ∧ (¬ P → R)) := by
  by_cases hp : P
  · rw [h.1 hp]; exact ans_iff (h1 hp) ⟨fun h => ⟨fun _ => h, fun h' => absurd hp h'⟩, fun h => h.1 hp⟩
  · rw [h.2 hp]; exact ans_iff (h2 hp) ⟨fun h => ⟨fun h' => absurd h' hp, fun _ => h⟩, fun h => h.2 hp⟩
theorem ans_bnd_no {mm : Option Y} {a b : Y} {f : Y → Option X} (h : Ans mm (some a) (some b) P) (h2 : f b = no) (h1 : P → Ans (f a) yes no Q) : Ans (bnd mm f) yes no (P ∧ Q) := by
  by_cases hp : P
  · rw [h.1 hp]; exact ans_iff (h1 hp) ⟨fun h => ⟨hp, h⟩, fun h => h.2⟩
  · rw [h.2 hp]; exact ⟨fun h => absurd h.1 hp, fun _ => h2⟩
theorem ans_bnd_no' {mm : Option Y} {a b : Y} {f : Y → Option X} (h : Ans mm (some a) (some b) P) (h2 : f a = no) (h1 : ¬ P → Ans (f b) yes no Q) : Ans (bnd mm f) yes no (¬ P ∧ Q) := by
  by_cases hp : P
  · rw [h.1 hp]; exact ⟨fun h => absurd hp h.1, fun _ => h2⟩
  · rw [h.2 hp]; exact ans_iff (h1 hp) ⟨fun h => ⟨hp, h⟩, fun h => h.2⟩
theorem ans_bnd_yes {mm : Option Y} {a b : Y} {f : Y → Option X} (h : Ans mm (some a) (some b) P) (h2 : f a = yes) (h1 : ¬ P → Ans (f b) yes no Q) : Ans (bnd mm f) yes no (P ∨ Q) := by
  by_cases hp : P
  · rw [h.1 hp]; exact ⟨fun _ => h2, fun h => absurd (.inl hp) h⟩
  · rw [h.2 hp]; exact ans_iff (h1 hp) ⟨.inr, fun h => h.resolve_left hp⟩
theorem ans_bnd_yes' {mm : Option Y} {a b : Y} {f : Y → Option X} (h : Ans mm (some a) (some b) P) (h2 : f b = yes) (h1 : P → Ans (f a) yes no Q) : Ans (bnd mm f) yes no (P → Q) := by
  by_cases hp : P
  · rw [h.1 hp]; exact ans_iff (h1 hp) ⟨fun h _ => h, fun h => h hp⟩
  · rw [h.2 hp]; exact ⟨fun _ => h2, fun h => absurd (fun h' => absurd h' hp) h⟩
/-- the last call -/
theorem ans_bnd_end {mm : Option Y} {a b : Y} {f : Y → Option X} (h : Ans mm (some a) (some b) P) (h1 : f a = yes) (h2 : f b = no) : Ans (bnd mm f) yes no P := by
  by_cases hp : P
  · rw [h.1 hp]; exact ⟨fun _ => h1, fun h => absurd hp h⟩
  · rw [h.2 hp]; exact ⟨fun h => absurd h hp, fun _ => h2⟩
theorem ans_bnd_end' {mm : Option Y} {a b : Y} {f : Y → Option X} (h : Ans mm (some a) (some b) P) (h1 : f a = no) (h2 : f b = yes) : Ans (bnd mm f) yes no (¬ P) := by
  by_cases hp : P
  · rw [h.1 hp]; exact ⟨fun h => absurd hp h, fun _ => h1⟩
  · rw [h.2 hp]; exact ⟨fun _ => h2, fun h => absurd hp h⟩
theorem ans_val {mm : Option Y} {v : Y} {f : Y → Option X} (h : mm = some v) (h1 : Ans (f v) yes no Q) : Ans (bnd mm f) yes no Q := by rw [h]; exact h1
theorem bnd_eq {mm : Option Y} {v : Y} {f : Y → Option X} (h : mm = some v) : bnd mm f = f v := by rw [h]; rfl
theorem ans_not {m : Option Bool} (h : Ans m (some true) (some false) P) : Ans m (some false) (some true) (¬ P) := ⟨fun hp => h.2 hp, fun hp => h.1 (Classical.not_not.1 hp)⟩
theorem ans_eq {m m' : Option X} (h : Ans m yes no P) (h' : Ans m' yes no Q) (e : P ↔ Q) : m = m' := by
  by_cases hp : P
  · rw [h.1 hp, h'.1 (e.1 hp)]
  · rw [h.2 hp, h'.2 fun q => hp (e.2 q)]
theorem ans_total {m : Option Bool} (h : Ans m (some true) (some false) P) : ∃ b : Bool, m = some b ∧ (b = true ↔ P) := by
  by_cases hp : P
  · exact ⟨true, h.1 hp, by simp [hp]⟩
  · exact ⟨false, h.2 hp, by simp [hp]⟩
/-- n rounds, each asks p i -/
theorem ans_rounds {T : Type} {B : T → (T → Option X) → Option X} (emb : Nat → T) (N : Nat) (p : Nat → Prop)
    (hstep : ∀ i C, i < N → (∀ j, j < i → p j) → Ans (B (emb i) C) (C (emb (i + 1))) no (p i)) (hend : ∀ C, (∀ j, j < N → p j) → B (emb N) C = yes) :
    ∀ n i, i ≤ N → N < n + i → (∀ j, j < i → p j) → Ans (forG B n (emb i)) yes no (∀ j, i ≤ j → j < N → p j)
  | 0, i, h1, h2, _ => absurd h1 (by omega)
  | n + 1, i, h1, h2, h3 => by
    simp only [forG]
    by_cases hi : i < N
    · have hs := hstep i (forG B n) hi h3
      by_cases hp : p i
      · rw [hs.1 hp]
        refine ans_iff (ans_rounds emb N p hstep hend n (i + 1) hi (by omega) fun j hj => ?_) ⟨fun h j hj hN => ?_, fun h j hj hN => h j (by omega) hN⟩
        · rcases Nat.lt_or_ge j i with h | h
          · exact h3 j h
          · have : j = i := by omega
            subst this; exact hp
        · rcases Nat.eq_or_lt_of_le hj with h' | h'
          · subst h'; exact hp
          · exact h j h' hN
      · rw [hs.2 hp]
        exact ⟨fun h => absurd (h i (Nat.le_refl _) hi) hp, fun _ => rfl⟩
    · have : i = N := by omega
      subst this
      rw [hend _ h3]
      exact ⟨fun _ => rfl, fun h => absurd (fun j hj hN => absurd hj (by omega)) h⟩
theorem ans_loop {T : Type} {B : T → (T → Option X) → Option X} (emb : Nat → T) (N : Nat) (p : Nat → Prop)
    (hstep : ∀ i C, i < N → (∀ j, j < i → p j) → Ans (B (emb i) C) (C (emb (i + 1))) no (p i)) (hend : ∀ C, (∀ j, j < N → p j) → B (emb N) C = yes) {n : Nat} (hn : N < n) :
    Ans (forG B n (emb 0)) yes no (∀ j, j < N → p j) :=
  ans_iff (ans_rounds emb N p hstep hend n 0 (Nat.zero_le _) (by omega) fun j hj => absurd hj (by omega)) ⟨fun h j hj => h j (Nat.zero_le _) hj, fun h j _ hj => h j hj⟩
theorem wrap_succ {i : Nat} (h : i < 9223372036854775807) : IntKind.i64.wrap ((i : Int) + 1) = ((i + 1 : Nat) : Int) := by rw [wrap_eq (by omega) (by omega)]; omega
theorem beq_dec {α : Type} [BEq α] [LawfulBEq α] [DecidableEq α] (a b : α) : (a == b) = decide (a = b) := by
  by_cases h : a = b
  · subst h; simp
  · rw [decide_eq_false h]; simpa using h
theorem bne_dec {α : Type} [BEq α] [LawfulBEq α] [DecidableEq α] (a b : α) : (a != b) = decide (¬ a = b) := by
  unfold bne; rw [beq_dec]; simp
theorem not_dec : (!decide c) = decide (¬ c) := by simp
end
theorem eqI_dec (a b : Int) : eqI a b = decide (a = b) := beq_dec a b
theorem eqB_dec (a b : Bool) : eqB a b = decide (a = b) := beq_dec a b
theorem eqS_dec (a b : List UInt8) : eqS a b = decide (a = b) := beq_dec a b
theorem andB_dec (p q : Prop) [Decidable p] [Decidable q] : andB (decide p) (decide q) = decide (p ∧ q) := by simp [andB]
theorem andB_true (a : Bool) : andB a true = a := by simp [andB]
/-- the place of the first of a kind; -1: there is none -/
def idx {α : Type} (p : α → Bool) (xs : List α) : Int := if xs.findIdx p < xs.length then (xs.findIdx p : Int) else -1
section
variable {α : Type} {p : α → Bool} {xs : List α}
theorem idx_neg : idx p xs < 0 ↔ ∀ x ∈ xs, p x = false := by
  unfold idx
  split
  · rename_i h
    refine ⟨fun h' => absurd h' (by omega), fun h' => ?_⟩
    have := List.findIdx_getElem (p := p) (w := h)
    rw [h' _ (List.getElem_mem h)] at this
    cases this
  · rename_i h
    refine ⟨fun _ x hx => ?_, fun _ => by omega⟩
    cases hpx : p x with
    | false => rfl
    | true => exact absurd (List.findIdx_lt_length.2 ⟨x, hx, hpx⟩) h
theorem idx_lt : idx p xs < xs.length := by
  unfold idx
  split <;> omega
theorem idx_ge : -1 ≤ idx p xs := by
  unfold idx
  split <;> omega
theorem idx_eq {i : Nat} : idx p xs = (i : Int) ↔ ∃ h : i < xs.length, p xs[i] = true ∧ ∀ j (hj : j < i), p (xs[j]'(by omega)) = false := by
  unfold idx
  split
  · rename_i h
    constructor
    · intro e
      have e : xs.findIdx p = i := by omega
      subst e
      exact ⟨h, List.findIdx_getElem, fun j hj => by simpa using List.not_of_lt_findIdx hj⟩
    · rintro ⟨h1, h2, h3⟩
      have : xs.findIdx p = i := (List.findIdx_eq h1).2 ⟨h2, h3⟩
      omega
  · rename_i h
    refine ⟨fun e => by omega, fun ⟨h1, h2, _⟩ => absurd (List.findIdx_lt_length.2 ⟨_, List.getElem_mem h1, h2⟩) h⟩
theorem idx_rounds {T X : Type} {z : α} {B : T → (T → Option X) → Option X} (emb : Nat → T) (out : Nat → X) (fin : X)
    (hstep : ∀ i C, i < xs.length → B (emb i) C = if p (xs.getD i z) = true then some (out i) else C (emb (i + 1))) (hend : ∀ C, B (emb xs.length) C = some fin) :
    ∀ n i, i ≤ xs.length → xs.length < n + i → (∀ j (hj : j < xs.length), j < i → p xs[j] = false) → forG B n (emb i) = some (if xs.findIdx p < xs.length then out (xs.findIdx p) else fin)
  | 0, i, h1, h2, _ => absurd h1 (by omega)
  | n + 1, i, h1, h2, h3 => by
    simp only [forG]
    by_cases hi : i < xs.length
    · rw [hstep i _ hi]
      have hg : xs.getD i z = xs[i] := by simp [List.getD_eq_getElem?_getD, hi]
      rw [hg]
      by_cases hp : p xs[i] = true
      · have : xs.findIdx p = i := (List.findIdx_eq hi).2 ⟨hp, fun j hj => h3 j (by omega) hj⟩
        rw [if_pos hp, this, if_pos hi]
      · rw [if_neg hp]
        refine idx_rounds emb out fin hstep hend n (i + 1) hi (by omega) fun j hj hji => ?_
        rcases Nat.lt_or_ge j i with h | h
        · exact h3 j hj h
        · have : j = i := by omega
          subst this; simpa using hp
    · have : i = xs.length := by omega
      subst this
      have hno : ¬ xs.findIdx p < xs.length := fun h => by
        have h4 := List.findIdx_getElem (p := p) (w := h)
        rw [h3 _ h h] at h4; cases h4
      rw [hend, if_neg hno]
theorem idx_loop {T X : Type} {z : α} {B : T → (T → Option X) → Option X} (emb : Nat → T) (out : Nat → X) (fin : X)
    (hstep : ∀ i C, i < xs.length → B (emb i) C = if p (xs.getD i z) = true then some (out i) else C (emb (i + 1))) (hend : ∀ C, B (emb xs.length) C = some fin) {n : Nat} (hn : xs.length < n) :
    forG B n (emb 0) = some (if xs.findIdx p < xs.length then out (xs.findIdx p) else fin) :=
  idx_rounds emb out fin hstep hend n 0 (Nat.zero_le _) (by omega) fun j hj h => absurd h (by omega)
end
end Go.Ev
end
