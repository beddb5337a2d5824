/- A region whose operations come in any order: sound. -/
import Derived.Test.YticlnmiakaelkaaEvDraw2
set_option linter.unusedSimpArgs false
set_option linter.unusedVariables false
namespace Go.Ev
open Go.RowKit (Below)

theorem ObjsOk.sub {w0 : World} {G0 : Nat → Prop} {m : St} {os os' : List (Nat × Obj)} (h : ObjsOk w0 G0 m os) (hf : ∀ i o, find os' i = some o → find os i = some o) : ObjsOk w0 G0 m os' := by
  have hb : ∀ i b, blk os' m i = some b → blk os m i = some b := fun i b hb => by
    unfold blk at hb ⊢
    cases ho : find os' i with
    | none => rw [ho] at hb; simp at hb
    | some o => rw [hf i o ho]; rw [ho] at hb; exact hb
  exact ⟨h.base, fun i o ho => h.objs i o (hf i o ho), fun i j b h1 h2 => h.inj i j b (hb i b h1) (hb j b h2), fun i b h1 => h.out i b (hb i b h1), h.liveG, h.liveH, h.subG, h.gh⟩

/-- how many are left -/
def left (n : Nat) (listed : Array Bool) : Nat := ((List.range n).filter fun i => !listed.getD i true).length
theorem filter_le {α : Type} {p q : α → Bool} (h : ∀ a, q a = true → p a = true) : ∀ l : List α, (l.filter q).length ≤ (l.filter p).length
  | [] => by simp
  | a :: l => by
    have ih := filter_le h l
    by_cases hq : q a = true
    · simp [List.filter_cons, hq, h a hq]; exact ih
    · by_cases hp : p a = true
      · simp [List.filter_cons, hq, hp]; omega
      · simp [List.filter_cons, hq, hp]; exact ih
theorem filter_lt {α : Type} {p q : α → Bool} (h : ∀ a, q a = true → p a = true) (x : α) (hp : p x = true) (hq : q x = false) : ∀ l : List α, x ∈ l → (l.filter q).length < (l.filter p).length
  | [], hx => by simp at hx
  | a :: l, hx => by
    have hle := filter_le h l
    rcases List.mem_cons.1 hx with e | e
    · subst e
      simp [List.filter_cons, hp, hq]; omega
    · have ih := filter_lt h x hp hq l e
      by_cases hqa : q a = true
      · simp [List.filter_cons, hqa, h a hqa]; exact ih
      · by_cases hpa : p a = true
        · simp [List.filter_cons, hqa, hpa]; omega
        · simp [List.filter_cons, hqa, hpa]; exact ih

section
variable {P : Program} {w0 : World} {G0 : Nat → Prop} {N : Nat} {Γ : Tab} {Δ : List (Nat × Con)} {k : Nat} {ρ : Type}

/-- What is known while operations are done in some order. -/
structure Amid (w0 : World) (G0 : Nat → Prop) (N : Nat) (all : List Oper) (n0 : Nat) (T : List Tr) (S0 : Nat → Option SV) (O0 : Nat → Option Obj) (listed : Array Bool) (m : St) (e : Env) (tm : Array Value) : Prop where
  size : listed.size = all.length
  rel : Rel w0 G0 N [] m e tm
  slots : ∀ t, find e.slots t = foldW (fun i => listed.getD i false) 0 (T.map wS) S0 t
  objs : ∀ i, find e.objs i = foldW (fun i => listed.getD i false) 0 (T.map wO) O0 i
  names : ∀ i, m.D i → i < n0 ∨ ∃ j, j < all.length ∧ listed.getD j false = true ∧ i = n0 + j
  closed : ∀ j o, all[j]? = some o → listed.getD j false = true → ∀ x ∈ o.after.toList, binding x = true → listed.getD x.on false = true

theorem getD_set {l : Array Bool} {i j : Nat} (hi : i < l.size) : (l.setIfInBounds i true).getD j false = if i = j then true else l.getD j false := by
  simp only [Array.getD_eq_getD_getElem?]
  by_cases h : i = j
  · subst h
    rw [Array.getElem?_setIfInBounds_self_of_lt hi]
    simp
  · rw [Array.getElem?_setIfInBounds_ne h]
    simp [h]
theorem getD_set' {l : Array Bool} {i j : Nat} (hi : i < l.size) : (l.setIfInBounds i true).getD j true = if i = j then true else l.getD j true := by
  simp only [Array.getD_eq_getD_getElem?]
  by_cases h : i = j
  · subst h
    rw [Array.getElem?_setIfInBounds_self_of_lt hi]
    simp
  · rw [Array.getElem?_setIfInBounds_ne h]
    simp [h]
theorem getD_in {l : Array Bool} {j : Nat} (hj : j < l.size) : l.getD j true = l.getD j false := by
  simp [Array.getD_eq_getD_getElem?, hj]

theorem any_sound (hΓ : TabOk P Γ) (hΔ : DelOk P w0 Δ) {ops : Array Oper} {all : List Oper} (hall : ops.toList = all) {an : List (Nat × List Nat)} (han : an = ancs 0 all []) (hdst : ∀ o ∈ all, dstOk N o.dst = true) (hok : slotsOk all an 0 all = true)
    {n0 : Nat} {T : List Tr} {S0 : Nat → Option SV} {O0 : Nat → Option Obj} (hT : TrS Γ Δ k all n0 0 all T S0 O0)
    (hC : ∀ i i' x x', i < i' → T[i]? = some x → T[i']? = some x' → x.did = true → x'.did = true → Cl an (rcOf i x) i' x') {Q : Exit → Act → World → Prop}
    (hQ : ∀ m e tm, Rel w0 G0 N [] m e tm → (∀ i, m.D i → i < n0 + all.length) → (∀ t, find e.slots t = foldW (fun _ => true) 0 (T.map wS) S0 t) → (∀ i, find e.objs i = foldW (fun _ => true) 0 (T.map wO) O0 i) → Q .normal ⟨tm, []⟩ m.w) :
    ∀ (fuel : Nat) (listed : Array Bool) (m : St) (e : Env) (tm : Array Value), left all.length listed ≤ fuel → Amid w0 G0 N all n0 T S0 O0 listed m e tm → wpAny P .any ops Q fuel listed ⟨tm, []⟩ m.w := by
  have hlen : ops.size = all.length := by rw [← hall, Array.length_toList]
  have hTl := hT.length
  -- nothing is ready: all is done
  have fin : ∀ (listed : Array Bool) (m : St) (e : Env) (tm : Array Value), Region.ready .any ops listed = [] → Amid w0 G0 N all n0 T S0 O0 listed m e tm → Q .normal ⟨tm, []⟩ m.w := by
    intro listed m e tm hr hA
    have hdone : ∀ i, i < all.length → listed.getD i false = true := by
      intro i
      induction i using Nat.strongRecOn with
      | _ i ih =>
        intro hi
        cases hb : listed.getD i false with
        | true => rfl
        | false =>
          exfalso
          have ho : ops[i]? = some all[i] := by rw [← Array.getElem?_toList, hall]; simp
          obtain ⟨anc, _, _, hback⟩ := slotsOk_spec all 0 hok i all[i] (by simp)
          rw [Nat.zero_add] at hback
          have hmem : i ∈ Region.ready .any ops listed := by
            unfold Region.ready
            rw [List.mem_filter]
            refine ⟨List.mem_range.2 (by omega), ?_⟩
            rw [getD_in (by rw [hA.size]; exact hi), hb, ho]
            simp only [Bool.not_false, Bool.true_and, Option.map_some, Option.getD_some]
            rw [Array.all_eq_true_iff_forall_mem]
            intro x hx
            rw [binding_eq]
            cases hbx : binding x with
            | false => rfl
            | true =>
              have hlt := edgesBack_spec hback x (by simpa using hx) hbx
              simp [ih x.on hlt (by omega)]
          rw [hr] at hmem
          simp at hmem
    refine hQ m e tm hA.rel (fun i hi => ?_) (fun t => ?_) (fun i => ?_)
    · rcases hA.names i hi with h | ⟨j, hj, _, rfl⟩ <;> omega
    · rw [hA.slots t]
      refine foldW_congr t _ 0 _ _ rfl fun j f hf _ => ?_
      have hj : j < T.length := by
        have := (List.getElem?_eq_some_iff.1 hf).1
        simpa using this
      rw [Nat.zero_add]
      exact hdone j (by omega)
    · rw [hA.objs i]
      refine foldW_congr i _ 0 _ _ rfl fun j f hf _ => ?_
      have hj : j < T.length := by
        have := (List.getElem?_eq_some_iff.1 hf).1
        simpa using this
      rw [Nat.zero_add]
      exact hdone j (by omega)
  intro fuel
  induction fuel with
  | zero =>
    intro listed m e tm hf hA
    have hr : Region.ready .any ops listed = [] := by
      unfold Region.ready
      rw [List.filter_eq_nil_iff]
      intro i hi hx
      have h0 : ((List.range all.length).filter fun i => !listed.getD i true) = [] := List.eq_nil_of_length_eq_zero (by unfold left at hf; omega)
      rw [List.filter_eq_nil_iff] at h0
      have := h0 i (by rw [← hlen]; exact hi)
      simp only [Bool.and_eq_true] at hx
      exact this hx.1
    exact ⟨hr, fin listed m e tm hr hA⟩
  | succ fuel ih =>
    intro listed m e tm hf hA
    refine ⟨fun hr => fin listed m e tm hr hA, fun i hi => ?_⟩
    unfold Region.ready at hi
    rw [List.mem_filter] at hi
    obtain ⟨hir, hip⟩ := hi
    have hin : i < all.length := by rw [← hlen]; exact List.mem_range.1 hir
    have ho : ops[i]? = some all[i] := by rw [← Array.getElem?_toList, hall]; simp
    have hoa : all[i]? = some all[i] := by simp
    generalize all[i] = o at ho hoa
    simp only [Bool.and_eq_true] at hip
    obtain ⟨hnl, hedg⟩ := hip
    rw [getD_in (by rw [hA.size]; exact hin)] at hnl
    have hLi : listed.getD i false = false := by simpa using hnl
    have hedges : ∀ x ∈ o.after.toList, binding x = true → listed.getD x.on false = true := by
      intro x hx hb
      rw [ho] at hedg
      simp only [Option.map_some, Option.getD_some] at hedg
      rw [Array.all_eq_true_iff_forall_mem] at hedg
      have := hedg x (by simpa using hx)
      rw [binding_eq, hb] at this
      simpa using this
    obtain ⟨x, hx⟩ : ∃ x, T[i]? = some x := ⟨_, List.getElem?_eq_getElem (by omega)⟩
    have hF := hT.get i o x hoa hx
    rw [Nat.zero_add] at hF
    obtain ⟨hxd, hxn, hcase⟩ := hF
    -- what comes ahead of i is done; what is done has not i ahead
    have ahead : ∀ anc, find an i = some anc → ∀ a ∈ anc, listed.getD a false = true := by
      intro anc ha
      rw [han] at ha
      exact anc_done (L := fun a => listed.getD a false = true) hA.closed i anc ha fun o' ho' => by
        rw [hoa] at ho'
        obtain rfl := Option.some.inj ho'
        exact hedges
    have later : ∀ j, listed.getD j false = true → ∀ anc, find an j = some anc → i ∉ anc := by
      intro j hj anc ha hm
      rw [han] at ha
      have := anc_done (L := fun a => listed.getD a false = true) hA.closed j anc ha (fun o' ho' => hA.closed j o' ho' hj) i hm
      rw [hLi] at this
      cases this
    have hTo : ∀ (j : Nat) (y : Tr), T[j]? = some y → ∃ oj : Oper, all[j]? = some oj ∧ y.dst = oj.dst := by
      intro j y hy
      have hj : j < all.length := by
        have := (List.getElem?_eq_some_iff.1 hy).1
        omega
      have := (hT.get j all[j] y (by simp) hy).1
      exact ⟨all[j], by simp, this⟩
    obtain ⟨anci, hanci, hpair, _⟩ := slotsOk_spec all 0 hok i o hoa
    rw [Nat.zero_add] at hanci hpair
    -- who writes what i looks at
    have slotsSame : ∀ t, t ∈ looks all o → find e.slots t = foldW (fun q => decide (q < i)) 0 (T.map wS) S0 t := by
      intro t ht
      rw [hA.slots t]
      refine foldW_congr t _ 0 _ _ rfl fun j f hfj hft => ?_
      rw [Nat.zero_add]
      rw [List.getElem?_map] at hfj
      cases hy : T[j]? with
      | none => rw [hy] at hfj; simp at hfj
      | some y =>
        rw [hy] at hfj
        simp only [Option.map_some, Option.some.injEq] at hfj
        subst hfj
        have hyd : y.dst = some t := by
          unfold wS at hft
          by_cases h : y.dst = some t
          · exact h
          · rw [if_neg h] at hft; exact absurd rfl hft
        obtain ⟨oj, hoj, hdj⟩ := hTo j y hy
        rw [hyd] at hdj
        rcases Nat.lt_trichotomy j i with hlt | rfl | hgt
        · have : listed.getD j false = true := by
            rcases hpair j oj hlt hoj with h | h
            · exact ahead anci hanci j h
            · exact absurd ht ((slotsApart_spec h).1 t hdj.symm)
          simp [this, hlt]
        · simp [hLi]
        · cases hLj : listed.getD j false with
          | false => simp; omega
          | true =>
            exfalso
            obtain ⟨ancj, hancj, hpj, _⟩ := slotsOk_spec all 0 hok j oj hoj
            rw [Nat.zero_add] at hancj hpj
            rcases hpj i o hgt hoa with h | h
            · exact later j hLj ancj hancj h
            · exact (slotsApart_spec h).2.1 t hdj.symm ht
    -- later ones that are done leave i's slot and objects alone
    have slotAlone : ∀ t, o.dst = some t → ∀ j y, i < j → T[j]? = some y → listed.getD j false = true → y.dst ≠ some t := by
      intro t ht j y hgt hy hLj hyd
      obtain ⟨oj, hoj, hdj⟩ := hTo j y hy
      obtain ⟨ancj, hancj, hpj, _⟩ := slotsOk_spec all 0 hok j oj hoj
      rw [Nat.zero_add] at hancj hpj
      rcases hpj i o hgt hoa with h | h
      · exact later j hLj ancj hancj h
      · exact (slotsApart_spec h).2.2 t ht (by rw [← hdj]; exact hyd)
    have hisz : i < listed.size := by rw [hA.size]; exact hin
    have hLset : ∀ j, (listed.setIfInBounds i true).getD j false = if i = j then true else listed.getD j false := fun j => getD_set hisz
    have hleft : left all.length (listed.setIfInBounds i true) ≤ fuel := by
      have : left all.length (listed.setIfInBounds i true) < left all.length listed := by
        unfold left
        refine filter_lt (fun a ha => ?_) i ?_ ?_ _ (List.mem_range.2 hin)
        · rw [getD_set' hisz] at ha
          by_cases h : i = a
          · rw [if_pos h] at ha; simp at ha
          · rw [if_neg h] at ha; exact ha
        · rw [getD_in hisz, hLi]; rfl
        · rw [getD_set' hisz, if_pos rfl]; rfl
      omega
    have closed' : ∀ j o', all[j]? = some o' → (listed.setIfInBounds i true).getD j false = true → ∀ y ∈ o'.after.toList, binding y = true → (listed.setIfInBounds i true).getD y.on false = true := by
      intro j o' ho' hj y hy hb
      rw [hLset] at hj ⊢
      by_cases h : i = y.on
      · rw [if_pos h]
      · rw [if_neg h]
        by_cases hij : i = j
        · subst hij
          rw [hoa] at ho'
          obtain rfl := Option.some.inj ho'
          exact hedges y hy hb
        · rw [if_neg hij] at hj
          exact hA.closed j o' ho' hj y hy hb
    have slots' : ∀ e' : Env, find e'.slots = find e.slots → ∀ t, find (e'.put o.dst x.sv).slots t = foldW (fun q => (listed.setIfInBounds i true).getD q false) 0 (T.map wS) S0 t := by
      intro e' he' t
      rw [find_put]
      have hxi : (T.map wS)[i]? = some (wS x) := by rw [List.getElem?_map, hx]; rfl
      by_cases ht : o.dst = some t
      · have : wS x t = some (some x.sv) := by unfold wS; rw [hxd, if_pos ht]
        rw [foldW_hit t (some x.sv) _ 0 _ i (wS x) hxi this (by rw [Nat.zero_add, hLset, if_pos rfl]) ?_]
        · simp [ovr, ht]
        · intro j f hlt hfj hLj
          rw [List.getElem?_map] at hfj
          cases hy : T[j]? with
          | none => rw [hy] at hfj; simp at hfj
          | some y =>
            rw [hy] at hfj
            simp only [Option.map_some, Option.some.injEq] at hfj
            subst hfj
            rw [Nat.zero_add, hLset, if_neg (by omega)] at hLj
            unfold wS
            rw [if_neg (slotAlone t ht j y hlt hy hLj)]
      · have e1 : ovr (fun t => if o.dst = some t then some (some x.sv) else none) (find e'.slots) t = find e.slots t := by
          simp [ovr, ht, he']
        rw [e1, hA.slots t]
        refine foldW_congr t _ 0 _ _ rfl fun j f hfj hft => ?_
        rw [Nat.zero_add, hLset]
        by_cases hij : i = j
        · subst hij
          rw [hxi] at hfj
          obtain rfl := Option.some.inj hfj
          exfalso
          apply hft
          unfold wS
          rw [hxd, if_neg ht]
        · rw [if_neg hij]
    -- the guard
    have guard : ∀ {okp : Bool → SV → Prop}, Guarded all o (foldW (fun q => decide (q < i)) 0 (T.map wS) S0) okp → ∃ g want p s sv v, o.guard = some (g, want) ∧ nth all g = some p ∧ p.dst = some s ∧ tm[s]? = some v ∧ Sv m sv v ∧ okp want sv := by
      intro okp ⟨g, want, p, s, sv, h1, h2, h3, h4, h5⟩
      rw [← slotsSame s (looks_guard h1 h2 h3)] at h4
      obtain ⟨v, hv, hsv⟩ := hA.rel.slots s sv h4
      exact ⟨g, want, p, s, sv, v, h1, h2, h3, hv, hsv, h5⟩
    unfold wpOp
    rw [ho]
    simp only
    rcases hcase with ⟨hdid, hg, hwr, E0, e1, hE1, hE2, hE3, hev, hout⟩ | ⟨hdid, hsv, hg⟩
    · -- it is done
      have hw : Region.wanted o (yielded ops tm) = true := by
        rcases hg with hg | hg
        · simp [Region.wanted, hg]
        · obtain ⟨g, want, p, s, sv, v, h1, h2, h3, hv, hsv, h5⟩ := guard hg
          subst h5
          have : v = .bool want := hsv
          subst this
          simp only [Region.wanted, h1, yielded_bool hall h2 h3 hv]
          cases want <;> rfl
      simp only [hw, if_true]
      left
      have objsSame : ∀ q, q ∈ x.fp → find e.objs q = foldW (fun q => decide (q < i)) 0 (T.map wO) O0 q := by
        intro q hq
        rw [hA.objs q]
        refine foldW_congr q _ 0 _ _ rfl fun j f hfj hft => ?_
        rw [Nat.zero_add]
        rw [List.getElem?_map] at hfj
        cases hy : T[j]? with
        | none => rw [hy] at hfj; simp at hfj
        | some y =>
          rw [hy] at hfj
          simp only [Option.map_some, Option.some.injEq] at hfj
          subst hfj
          have hyd : y.did = true ∧ q ∈ y.n :: y.wr := by
            unfold wO at hft
            by_cases h : y.did = true ∧ q ∈ y.n :: y.wr
            · exact h
            · rw [if_neg h] at hft; exact absurd rfl hft
          rcases Nat.lt_trichotomy j i with hlt | rfl | hgt
          · have : listed.getD j false = true := by
              obtain ⟨anc, ha, hc⟩ := hC j i y x hlt hy hx hyd.1 hdid
              rcases hc with h | ⟨h, _⟩
              · exact ahead anc ha j h
              · exact absurd (List.mem_cons_of_mem _ hq) (h q hyd.2)
            simp [this, hlt]
          · simp [hLi]
          · cases hLj : listed.getD j false with
            | false => simp; omega
            | true =>
              exfalso
              obtain ⟨anc, ha, hc⟩ := hC i j x y hgt hx hy hdid hyd.1
              rcases hc with h | ⟨_, h⟩
              · exact later j hLj anc ha h
              · exact h q (List.mem_cons_of_mem _ hq) hyd.2
      have hwsub : ∀ q, q ∈ x.n :: x.wr → q ∈ x.n :: x.fp := by
        intro q hq
        rcases hwr with ⟨_, h⟩ | h
        · rw [h] at hq
          rcases List.mem_cons.1 hq with h | h
          · subst h; exact List.mem_cons_self
          · simp at h
        · rw [h] at hq; exact hq
      have hok0 : ObjsOk w0 G0 m e.objs := by have := hA.rel.ok; rwa [List.append_nil] at this
      -- the relation, told of what it looks at; all else lies beside it
      have hR0 : Rel w0 G0 N (without x.fp e.objs) m E0 tm := by
        refine ⟨hok0.congr fun q => ?_, fun q ob hq => ?_, hA.rel.tms, fun t sv ht => ?_⟩
        · rw [find_append, hE2, find_without]
          by_cases hq : q ∈ x.fp
          · simp only [hq, if_true]
            rw [← objsSame q hq]
            cases find e.objs q <;> rfl
          · simp only [hq, if_false]
        · rw [hE2] at hq
          rw [find_without]
          by_cases h : q ∈ x.fp
          · rw [if_pos h]
          · rw [if_neg h] at hq; cases hq
        · rw [hE1] at ht
          by_cases h : t ∈ tmpsOf o.op.operands.toList
          · rw [if_pos h, ← slotsSame t (looks_ops h)] at ht
            exact hA.rel.slots t sv ht
          · rw [if_neg h] at ht; cases ht
      have hfr : ¬ m.D E0.next := by
        rw [hE3, hxn]
        intro hD
        rcases hA.names _ hD with h | ⟨j, _, hj, h⟩
        · omega
        · have : j = i := by omega
          subst this
          rw [hLi] at hj
          cases hj
      refine op_sound (a := ⟨tm, []⟩) hΓ hΔ hR0 hfr o hev ?_
      intro m' e' s v ⟨g1, g2, g3, g4, g5⟩
      have e2 : (s, e') = (x.sv, e1) := Option.some.inj g5
      have es : s = x.sv := congrArg Prod.fst e2
      have ee : e' = e1 := congrArg Prod.snd e2
      subst es; subst ee
      have hxn' : E0.next = x.n := hE3
      -- the objects behind it
      have hsub : ∀ q ob, find (only (x.n :: x.wr) e'.objs ++ without (x.n :: x.wr) e.objs) q = some ob → find (e'.objs ++ without x.fp e.objs) q = some ob := by
        intro q ob hq
        rw [find_mix] at hq
        by_cases h : q ∈ x.n :: x.wr
        · rw [if_pos h] at hq
          exact find_left hq
        · rw [if_neg h] at hq
          by_cases hqf : q ∈ x.fp
          · rcases hwr with ⟨hrd, hw0⟩ | hw0
            · have hqn : q ≠ E0.next := fun hh => h (by rw [← hxn', ← hh]; exact List.mem_cons_self)
              have := g2 hrd q hqn
              rw [hE2, if_pos hqf, ← objsSame q hqf, hq] at this
              exact find_left this
            · exact absurd (List.mem_cons_of_mem _ (by rw [hw0]; exact hqf)) h
          · have hFq : find (without x.fp e.objs) q = some ob := by rw [find_without, if_neg hqf]; exact hq
            have hn : find e'.objs q = none := by
              cases hz : find e'.objs q with
              | none => rfl
              | some z =>
                have := g3.disj q z hz
                rw [hFq] at this
                cases this
            rw [find_append, hn]
            exact hFq
      have hR1 : Rel w0 G0 N [] m' ⟨e.slots, only (x.n :: x.wr) e'.objs ++ without (x.n :: x.wr) e.objs, e.next⟩ tm := by
        refine ⟨by rw [List.append_nil]; exact g3.ok.sub hsub, fun _ _ _ => rfl, hA.rel.tms, fun t sv ht => ?_⟩
        obtain ⟨u, hu, hs⟩ := hA.rel.slots t sv ht
        exact ⟨u, hu, hs.le g1.le⟩
      rw [put_act]
      refine ih _ m' (Env.put ⟨e.slots, only (x.n :: x.wr) e'.objs ++ without (x.n :: x.wr) e.objs, e.next⟩ o.dst x.sv) _ hleft ⟨by simp [hA.size], hR1.put (hdst o (List.mem_of_getElem? hoa)) g4, slots' _ rfl, fun q => ?_, fun q hq => ?_, closed'⟩
      · rw [put_objs]
        simp only
        rw [find_mix]
        have hxi : (T.map wO)[i]? = some (wO x) := by rw [List.getElem?_map, hx]; rfl
        by_cases h : q ∈ x.n :: x.wr
        · rw [if_pos h]
          have : wO x q = some (find e'.objs q) := by
            unfold wO
            rw [if_pos ⟨hdid, h⟩, hout]
          rw [foldW_hit q (find e'.objs q) _ 0 _ i (wO x) hxi this (by rw [Nat.zero_add, hLset, if_pos rfl]) ?_]
          intro j f hlt hfj hLj
          rw [List.getElem?_map] at hfj
          cases hy : T[j]? with
          | none => rw [hy] at hfj; simp at hfj
          | some y =>
            rw [hy] at hfj
            simp only [Option.map_some, Option.some.injEq] at hfj
            subst hfj
            rw [Nat.zero_add, hLset, if_neg (by omega)] at hLj
            unfold wO
            rw [if_neg]
            intro hyd
            obtain ⟨anc, ha, hc⟩ := hC i j x y hlt hx hy hdid hyd.1
            rcases hc with hc | ⟨_, hc⟩
            · exact later j hLj anc ha hc
            · exact hc q (hwsub q h) hyd.2
        · rw [if_neg h, hA.objs q]
          refine foldW_congr q _ 0 _ _ rfl fun j f hfj hft => ?_
          rw [Nat.zero_add, hLset]
          by_cases hij : i = j
          · subst hij
            rw [hxi] at hfj
            obtain rfl := Option.some.inj hfj
            exfalso
            apply hft
            unfold wO
            rw [if_neg fun hh => h hh.2]
          · rw [if_neg hij]
      · rcases g1.D q hq with h | ⟨h, _⟩
        · rcases hA.names q h with h | ⟨j, hj, hjl, rfl⟩
          · exact .inl h
          · refine .inr ⟨j, hj, ?_, rfl⟩
            rw [hLset]
            by_cases hij : i = j
            · rw [if_pos hij]
            · rw [if_neg hij]; exact hjl
        · refine .inr ⟨i, hin, by rw [hLset, if_pos rfl], ?_⟩
          rw [h, hxn', hxn]
    · -- it is left out
      have hw : Region.wanted o (yielded ops tm) = false := by
        obtain ⟨g, want, p, s, sv, v, h1, h2, h3, hv, hsv', h5⟩ := guard hg
        rcases h5 with h5 | h5
        · subst h5
          have : v = .bool (!want) := hsv'
          subst this
          simp only [Region.wanted, h1, yielded_bool hall h2 h3 hv]
          cases want <;> rfl
        · subst h5
          obtain ⟨xs, e2, hxs⟩ := hsv'
          have : xs = [] := by cases xs with
            | nil => rfl
            | cons => exact absurd hxs (by simp [R2])
          subst this
          subst e2
          simp only [Region.wanted, h1, yielded_none hall h2 h3 hv]
          rfl
      simp only [hw, Bool.false_eq_true, if_false]
      rw [put_act]
      have hput := hA.rel.put (d := o.dst) (hdst o (List.mem_of_getElem? hoa)) (undef_sv (m := m))
      rw [← hsv] at hput
      refine ih _ m (e.put o.dst x.sv) _ hleft ⟨by simp [hA.size], hput, slots' e rfl, fun q => ?_, fun q hq => ?_, closed'⟩
      · rw [put_objs, hA.objs q]
        refine foldW_congr q _ 0 _ _ rfl fun j f hfj hft => ?_
        rw [Nat.zero_add, hLset]
        by_cases hij : i = j
        · subst hij
          rw [List.getElem?_map, hx] at hfj
          simp only [Option.map_some, Option.some.injEq] at hfj
          subst hfj
          exfalso
          apply hft
          unfold wO
          rw [if_neg fun hh => by rw [hdid] at hh; cases hh.1]
        · rw [if_neg hij]
      · rcases hA.names q hq with h | ⟨j, hj, hjl, rfl⟩
        · exact .inl h
        · refine .inr ⟨j, hj, ?_, rfl⟩
          rw [hLset]
          by_cases hij : i = j
          · rw [if_pos hij]
          · rw [if_neg hij]; exact hjl

theorem draw_sound (hΓ : TabOk P Γ) (hΔ : DelOk P w0 Δ) (hm : P.follows .mixedOrders = true) : DrawSound P w0 Γ Δ := by
  intro G0 N m e tm k id ρ ops K r Q hdst hok hR hf h hQ
  refine wp_region_any hm ?_
  obtain ⟨T, ef, g1, g2, g3, g4, g5, _, g7⟩ := trace (n0 := e.next) ops.toList 0 [] e (by simp) h
  have hok0 : ObjsOk w0 G0 m e.objs := by have := hR.ok; rwa [List.append_nil] at this
  have hle := le_drew m
  let m' : St := { m with w := m.w.drew }
  have hR' : Rel w0 G0 N [] m' e tm := hR.world hle (hR.ok.world hle hR.ok.base.drew (fun _ _ _ => rfl) (fun b hb => ⟨.inl hb, hR.ok.liveG b hb⟩) (fun b hb => ⟨.inl hb, hR.ok.liveH b hb⟩) (Nat.le_refl _) hR.ok.gh)
  have hw : ({ m.w with drawn := m.w.drawn + 1 } : World) = m'.w := rfl
  rw [hw]
  have hfalse : ∀ j, (Array.replicate ops.size false).getD j false = false := fun j => by
    simp only [Array.getD_eq_getD_getElem?, Array.getElem?_replicate]
    split <;> rfl
  refine any_sound (m := m') (w0 := w0) (G0 := G0) (N := N) hΓ hΔ rfl rfl hdst hok g1 (fun i i' x x' hlt hx hx' hd hd' => by simpa using g7 i i' x x' hlt hx hx' hd hd') ?_ ops.size _ e tm ?_ ⟨by simp, hR', fun t => ?_, fun i => ?_, fun i hi => .inl (hf i hi), fun j o _ hj => by rw [hfalse] at hj; cases hj⟩
  · intro m2 e2 tm2 hR2 hD2 hs2 ho2
    have e1 : find e2.slots = find ef.slots := by rw [g4]; funext t; exact hs2 t
    have e3 : find e2.objs = find ef.objs := by rw [g5]; funext i; exact ho2 i
    refine hQ m2 ef tm2 ⟨?_, fun _ _ _ => rfl, hR2.tms, fun t sv ht => hR2.slots t sv (by rw [e1]; exact ht)⟩ (fun i hi => ?_) g2
    · have := hR2.ok
      rw [List.append_nil] at this ⊢
      exact this.congr fun i => by rw [e3]
    · have := hD2 i hi
      rw [g3]
      simpa using this
  · unfold left
    have := List.length_filter_le (fun i => !(Array.replicate ops.size false).getD i true) (List.range ops.toList.length)
    simpa using this
  · rw [foldW_all_false (fun j _ => hfalse j)]
  · rw [foldW_all_false (fun j _ => hfalse j)]
end
end Go.Ev
