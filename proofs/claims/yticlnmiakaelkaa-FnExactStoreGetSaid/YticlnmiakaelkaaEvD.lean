/- The evaluator and its soundness, part 4. -/
import Derived.Test.YticlnmiakaelkaaEvC
import Derived.Test.YticlnmiakaelkaaEvA
import Derived.Sort.LotA
import Derived.Test.YticlnmiakaelkaaEvB
import Derived.Shelf.GgSortMore.Lays
import Derived.Shelf.SlSortFuncK.SWK
import Derived.Deep.LoopGhost
import Derived.Shelf.GgSortFunc.LotD
import Derived.Shelf.GgSortFunc.InsertionK
section
/- A region whose operations come in any order: sound. -/
set_option linter.unusedSimpArgs false
set_option linter.unusedVariables false
namespace Go.Ev
open Go.RowKit (Below)

theorem ObjsOk.sub {w0 : World} {G0 : Nat → Prop} {m : St} {os os' : List (Nat × Obj)} (h : ObjsOk w0 G0 m os) (hf : ∀ i o, find os' i = some o → find os i = some o) : ObjsOk w0 G0 m os' := by
  have hb : ∀ i b, blk os' m i = some b → blk os m i = some b := fun i b hb => by
    unfold blk at hb ⊢
    cases ho : find os' i with
    | none => rw [ho] at hb; simp at hb
    | some o => rw [hf i o ho]; rw [ho] at hb; exact hb
  exact ⟨h.base, fun i o ho => h.objs i o (hf i o ho), fun i j b h1 h2 => h.inj i j b (hb i b h1) (hb j b h2), fun i b h1 => h.out i b (hb i b h1), h.liveG, h.liveH, h.subG, h.gh⟩

/-- how many are left -/
def left (n : Nat) (listed : Array Bool) : Nat := ((List.range n).filter fun i => !listed.getD i true).length
theorem filter_le {α : Type} {p q : α → Bool} (h : ∀ a, q a = true → p a = true) : ∀ l : List α, (l.filter q).length ≤ (l.filter p).length
  | [] => by simp
  | a :: l => by
    have ih := filter_le h l
    by_cases hq : q a = true
    · simp [List.filter_cons, hq, h a hq]; exact ih
    · by_cases hp : p a = true
      · simp [List.filter_cons, hq, hp]; omega
      · simp [List.filter_cons, hq, hp]; exact ih
theorem filter_lt {α : Type} {p q : α → Bool} (h : ∀ a, q a = true → p a = true) (x : α) (hp : p x = true) (hq : q x = false) : ∀ l : List α, x ∈ l → (l.filter q).length < (l.filter p).length
  | [], hx => by simp at hx
  | a :: l, hx => by
    have hle := filter_le h l
    rcases List.mem_cons.1 hx with e | e
    · subst e
      simp [List.filter_cons, hp, hq]; omega
    · have ih := filter_lt h x hp hq l e
      by_cases hqa : q a = true
      · simp [List.filter_cons, hqa, h a hqa]; exact ih
      · by_cases hpa : p a = true
        · simp [List.filter_cons, hqa, hpa]; omega
        · simp [List.filter_cons, hqa, hpa]; exact ih

section
variable {P : Program} {w0 : World} {G0 : Nat → Prop} {N : Nat} {Γ : Tab} {Δ : List (Nat × Con)} {k : Nat} {ρ : Type}

/-- What is known while operations are done in some order. -/
structure Amid (w0 : World) (G0 : Nat → Prop) (N : Nat) (all : List Oper) (n0 : Nat) (T : List Tr) (S0 : Nat → Option SV) (O0 : Nat → Option Obj) (listed : Array Bool) (m : St) (e : Env) (tm : Array Value) : Prop where
  size : listed.size = all.length
  rel : Rel w0 G0 N [] m e tm
  slots : ∀ t, find e.slots t = foldW (fun i => listed.getD i false) 0 (T.map wS) S0 t
  objs : ∀ i, find e.objs i = foldW (fun i => listed.getD i false) 0 (T.map wO) O0 i
  names : ∀ i, m.D i → i < n0 ∨ ∃ j, j < all.length ∧ listed.getD j false = true ∧ i = n0 + j
  closed : ∀ j o, all[j]? = some o → listed.getD j false = true → ∀ x ∈ o.after.toList, binding x = true → listed.getD x.on false = true

theorem getD_set {l : Array Bool} {i j : Nat} (hi : i < l.size) : (l.setIfInBounds i true).getD j false = if i = j then true else l.getD j false := by
  simp only [Array.getD_eq_getD_getElem?]
  by_cases h : i = j
  · subst h
    rw [Array.getElem?_setIfInBounds_self_of_lt hi]
    simp
  · rw [Array.getElem?_setIfInBounds_ne h]
    simp [h]
theorem getD_set' {l : Array Bool} {i j : Nat} (hi : i < l.size) : (l.setIfInBounds i true).getD j true = if i = j then true else l.getD j true := by
  simp only [Array.getD_eq_getD_getElem?]
  by_cases h : i = j
  · subst h
    rw [Array.getElem?_setIfInBounds_self_of_lt hi]
    simp
  · rw [Array.getElem?_setIfInBounds_ne h]
    simp [h]
theorem getD_in {l : Array Bool} {j : Nat} (hj : j < l.size) : l.getD j true = l.getD j false := by
  simp [Array.getD_eq_getD_getElem?, hj]

theorem any_sound (hΓ : TabOk P Γ) (hΔ : DelOk P w0 Δ) {ops : Array Oper} {all : List Oper} (hall : ops.toList = all) {an : List (Nat × List Nat)} (han : an = ancs 0 all []) (hdst : ∀ o ∈ all, dstOk N o.dst = true) (hok : slotsOk all an 0 all = true)
    {n0 : Nat} {T : List Tr} {S0 : Nat → Option SV} {O0 : Nat → Option Obj} (hT : TrS Γ Δ k all n0 0 all T S0 O0)
    (hC : ∀ i i' x x', i < i' → T[i]? = some x → T[i']? = some x' → x.did = true → x'.did = true → Cl an (rcOf i x) i' x') {Q : Exit → Act → World → Prop}
    (hQ : ∀ m e tm, Rel w0 G0 N [] m e tm → (∀ i, m.D i → i < n0 + all.length) → (∀ t, find e.slots t = foldW (fun _ => true) 0 (T.map wS) S0 t) → (∀ i, find e.objs i = foldW (fun _ => true) 0 (T.map wO) O0 i) → Q .normal ⟨tm, []⟩ m.w) :
    ∀ (fuel : Nat) (listed : Array Bool) (m : St) (e : Env) (tm : Array Value), left all.length listed ≤ fuel → Amid w0 G0 N all n0 T S0 O0 listed m e tm → wpAny P .any ops Q fuel listed ⟨tm, []⟩ m.w := by
  have hlen : ops.size = all.length := by rw [← hall, Array.length_toList]
  have hTl := hT.length
  -- nothing is ready: all is done
  have fin : ∀ (listed : Array Bool) (m : St) (e : Env) (tm : Array Value), Region.ready .any ops listed = [] → Amid w0 G0 N all n0 T S0 O0 listed m e tm → Q .normal ⟨tm, []⟩ m.w := by
    intro listed m e tm hr hA
    have hdone : ∀ i, i < all.length → listed.getD i false = true := by
      intro i
      induction i using Nat.strongRecOn with
      | _ i ih =>
        intro hi
        cases hb : listed.getD i false with
        | true => rfl
        | false =>
          exfalso
          have ho : ops[i]? = some all[i] := by rw [← Array.getElem?_toList, hall]; simp
          obtain ⟨anc, _, _, hback⟩ := slotsOk_spec all 0 hok i all[i] (by simp)
          rw [Nat.zero_add] at hback
          have hmem : i ∈ Region.ready .any ops listed := by
            unfold Region.ready
            rw [List.mem_filter]
            refine ⟨List.mem_range.2 (by omega), ?_⟩
            rw [getD_in (by rw [hA.size]; exact hi), hb, ho]
            simp only [Bool.not_false, Bool.true_and, Option.map_some, Option.getD_some]
            rw [Array.all_eq_true_iff_forall_mem]
            intro x hx
            rw [binding_eq]
            cases hbx : binding x with
            | false => rfl
            | true =>
              have hlt := edgesBack_spec hback x (by simpa using hx) hbx
              simp [ih x.on hlt (by omega)]
          rw [hr] at hmem
          simp at hmem
    refine hQ m e tm hA.rel (fun i hi => ?_) (fun t => ?_) (fun i => ?_)
    · rcases hA.names i hi with h | ⟨j, hj, _, rfl⟩ <;> omega
    · rw [hA.slots t]
      refine foldW_congr t _ 0 _ _ rfl fun j f hf _ => ?_
      have hj : j < T.length := by
        have := (List.getElem?_eq_some_iff.1 hf).1
        simpa using this
      rw [Nat.zero_add]
      exact hdone j (by omega)
    · rw [hA.objs i]
      refine foldW_congr i _ 0 _ _ rfl fun j f hf _ => ?_
      have hj : j < T.length := by
        have := (List.getElem?_eq_some_iff.1 hf).1
        simpa using this
      rw [Nat.zero_add]
      exact hdone j (by omega)
  intro fuel
  induction fuel with
  | zero =>
    intro listed m e tm hf hA
    have hr : Region.ready .any ops listed = [] := by
      unfold Region.ready
      rw [List.filter_eq_nil_iff]
      intro i hi hx
      have h0 : ((List.range all.length).filter fun i => !listed.getD i true) = [] := List.eq_nil_of_length_eq_zero (by unfold left at hf; omega)
      rw [List.filter_eq_nil_iff] at h0
      have := h0 i (by rw [← hlen]; exact hi)
      simp only [Bool.and_eq_true] at hx
      exact this hx.1
    exact ⟨hr, fin listed m e tm hr hA⟩
  | succ fuel ih =>
    intro listed m e tm hf hA
    refine ⟨fun hr => fin listed m e tm hr hA, fun i hi => ?_⟩
    unfold Region.ready at hi
    rw [List.mem_filter] at hi
    obtain ⟨hir, hip⟩ := hi
    have hin : i < all.length := by rw [← hlen]; exact List.mem_range.1 hir
    have ho : ops[i]? = some all[i] := by rw [← Array.getElem?_toList, hall]; simp
    have hoa : all[i]? = some all[i] := by simp
    generalize all[i] = o at ho hoa
    simp only [Bool.and_eq_true] at hip
    obtain ⟨hnl, hedg⟩ := hip
    rw [getD_in (by rw [hA.size]; exact hin)] at hnl
    have hLi : listed.getD i false = false := by simpa using hnl
    have hedges : ∀ x ∈ o.after.toList, binding x = true → listed.getD x.on false = true := by
      intro x hx hb
      rw [ho] at hedg
      simp only [Option.map_some, Option.getD_some] at hedg
      rw [Array.all_eq_true_iff_forall_mem] at hedg
      have := hedg x (by simpa using hx)
      rw [binding_eq, hb] at this
      simpa using this
    obtain ⟨x, hx⟩ : ∃ x, T[i]? = some x := ⟨_, List.getElem?_eq_getElem (by omega)⟩
    have hF := hT.get i o x hoa hx
    rw [Nat.zero_add] at hF
    obtain ⟨hxd, hxn, hcase⟩ := hF
    -- what comes ahead of i is done; what is done has not i ahead
    have ahead : ∀ anc, find an i = some anc → ∀ a ∈ anc, listed.getD a false = true := by
      intro anc ha
      rw [han] at ha
      exact anc_done (L := fun a => listed.getD a false = true) hA.closed i anc ha fun o' ho' => by
        rw [hoa] at ho'
        obtain rfl := Option.some.inj ho'
        exact hedges
    have later : ∀ j, listed.getD j false = true → ∀ anc, find an j = some anc → i ∉ anc := by
      intro j hj anc ha hm
      rw [han] at ha
      have := anc_done (L := fun a => listed.getD a false = true) hA.closed j anc ha (fun o' ho' => hA.closed j o' ho' hj) i hm
      rw [hLi] at this
      cases this
    have hTo : ∀ (j : Nat) (y : Tr), T[j]? = some y → ∃ oj : Oper, all[j]? = some oj ∧ y.dst = oj.dst := by
      intro j y hy
      have hj : j < all.length := by
        have := (List.getElem?_eq_some_iff.1 hy).1
        omega
      have := (hT.get j all[j] y (by simp) hy).1
      exact ⟨all[j], by simp, this⟩
    obtain ⟨anci, hanci, hpair, _⟩ := slotsOk_spec all 0 hok i o hoa
    rw [Nat.zero_add] at hanci hpair
    -- who writes what i looks at
    have slotsSame : ∀ t, t ∈ looks all o → find e.slots t = foldW (fun q => decide (q < i)) 0 (T.map wS) S0 t := by
      intro t ht
      rw [hA.slots t]
      refine foldW_congr t _ 0 _ _ rfl fun j f hfj hft => ?_
      rw [Nat.zero_add]
      rw [List.getElem?_map] at hfj
      cases hy : T[j]? with
      | none => rw [hy] at hfj; simp at hfj
      | some y =>
        rw [hy] at hfj
        simp only [Option.map_some, Option.some.injEq] at hfj
        subst hfj
        have hyd : y.dst = some t := by
          unfold wS at hft
          by_cases h : y.dst = some t
          · exact h
          · rw [if_neg h] at hft; exact absurd rfl hft
        obtain ⟨oj, hoj, hdj⟩ := hTo j y hy
        rw [hyd] at hdj
        rcases Nat.lt_trichotomy j i with hlt | rfl | hgt
        · have : listed.getD j false = true := by
            rcases hpair j oj hlt hoj with h | h
            · exact ahead anci hanci j h
            · exact absurd ht ((slotsApart_spec h).1 t hdj.symm)
          simp [this, hlt]
        · simp [hLi]
        · cases hLj : listed.getD j false with
          | false => simp; omega
          | true =>
            exfalso
            obtain ⟨ancj, hancj, hpj, _⟩ := slotsOk_spec all 0 hok j oj hoj
            rw [Nat.zero_add] at hancj hpj
            rcases hpj i o hgt hoa with h | h
            · exact later j hLj ancj hancj h
            · exact (slotsApart_spec h).2.1 t hdj.symm ht
    -- later ones that are done leave i's slot and objects alone
    have slotAlone : ∀ t, o.dst = some t → ∀ j y, i < j → T[j]? = some y → listed.getD j false = true → y.dst ≠ some t := by
      intro t ht j y hgt hy hLj hyd
      obtain ⟨oj, hoj, hdj⟩ := hTo j y hy
      obtain ⟨ancj, hancj, hpj, _⟩ := slotsOk_spec all 0 hok j oj hoj
      rw [Nat.zero_add] at hancj hpj
      rcases hpj i o hgt hoa with h | h
      · exact later j hLj ancj hancj h
      · exact (slotsApart_spec h).2.2 t ht (by rw [← hdj]; exact hyd)
    have hisz : i < listed.size := by rw [hA.size]; exact hin
    have hLset : ∀ j, (listed.setIfInBounds i true).getD j false = if i = j then true else listed.getD j false := fun j => getD_set hisz
    have hleft : left all.length (listed.setIfInBounds i true) ≤ fuel := by
      have : left all.length (listed.setIfInBounds i true) < left all.length listed := by
        unfold left
        refine filter_lt (fun a ha => ?_) i ?_ ?_ _ (List.mem_range.2 hin)
        · rw [getD_set' hisz] at ha
          by_cases h : i = a
          · rw [if_pos h] at ha; simp at ha
          · rw [if_neg h] at ha; exact ha
        · rw [getD_in hisz, hLi]; rfl
        · rw [getD_set' hisz, if_pos rfl]; rfl
      omega
    have closed' : ∀ j o', all[j]? = some o' → (listed.setIfInBounds i true).getD j false = true → ∀ y ∈ o'.after.toList, binding y = true → (listed.setIfInBounds i true).getD y.on false = true := by
      intro j o' ho' hj y hy hb
      rw [hLset] at hj ⊢
      by_cases h : i = y.on
      · rw [if_pos h]
      · rw [if_neg h]
        by_cases hij : i = j
        · subst hij
          rw [hoa] at ho'
          obtain rfl := Option.some.inj ho'
          exact hedges y hy hb
        · rw [if_neg hij] at hj
          exact hA.closed j o' ho' hj y hy hb
    have slots' : ∀ e' : Env, find e'.slots = find e.slots → ∀ t, find (e'.put o.dst x.sv).slots t = foldW (fun q => (listed.setIfInBounds i true).getD q false) 0 (T.map wS) S0 t := by
      intro e' he' t
      rw [find_put]
      have hxi : (T.map wS)[i]? = some (wS x) := by rw [List.getElem?_map, hx]; rfl
      by_cases ht : o.dst = some t
      · have : wS x t = some (some x.sv) := by unfold wS; rw [hxd, if_pos ht]
        rw [foldW_hit t (some x.sv) _ 0 _ i (wS x) hxi this (by rw [Nat.zero_add, hLset, if_pos rfl]) ?_]
        · simp [ovr, ht]
        · intro j f hlt hfj hLj
          rw [List.getElem?_map] at hfj
          cases hy : T[j]? with
          | none => rw [hy] at hfj; simp at hfj
          | some y =>
            rw [hy] at hfj
            simp only [Option.map_some, Option.some.injEq] at hfj
            subst hfj
            rw [Nat.zero_add, hLset, if_neg (by omega)] at hLj
            unfold wS
            rw [if_neg (slotAlone t ht j y hlt hy hLj)]
      · have e1 : ovr (fun t => if o.dst = some t then some (some x.sv) else none) (find e'.slots) t = find e.slots t := by
          simp [ovr, ht, he']
        rw [e1, hA.slots t]
        refine foldW_congr t _ 0 _ _ rfl fun j f hfj hft => ?_
        rw [Nat.zero_add, hLset]
        by_cases hij : i = j
        · subst hij
          rw [hxi] at hfj
          obtain rfl := Option.some.inj hfj
          exfalso
          apply hft
          unfold wS
          rw [hxd, if_neg ht]
        · rw [if_neg hij]
    -- the guard
    have guard : ∀ {okp : Bool → SV → Prop}, Guarded all o (foldW (fun q => decide (q < i)) 0 (T.map wS) S0) okp → ∃ g want p s sv v, o.guard = some (g, want) ∧ nth all g = some p ∧ p.dst = some s ∧ tm[s]? = some v ∧ Sv m sv v ∧ okp want sv := by
      intro okp ⟨g, want, p, s, sv, h1, h2, h3, h4, h5⟩
      rw [← slotsSame s (looks_guard h1 h2 h3)] at h4
      obtain ⟨v, hv, hsv⟩ := hA.rel.slots s sv h4
      exact ⟨g, want, p, s, sv, v, h1, h2, h3, hv, hsv, h5⟩
    unfold wpOp
    rw [ho]
    simp only
    rcases hcase with ⟨hdid, hg, hwr, E0, e1, hE1, hE2, hE3, hev, hout⟩ | ⟨hdid, hsv, hg⟩
    · -- it is done
      have hw : Region.wanted o (yielded ops tm) = true := by
        rcases hg with hg | hg
        · simp [Region.wanted, hg]
        · obtain ⟨g, want, p, s, sv, v, h1, h2, h3, hv, hsv, h5⟩ := guard hg
          subst h5
          have : v = .bool want := hsv
          subst this
          simp only [Region.wanted, h1, yielded_bool hall h2 h3 hv]
          cases want <;> rfl
      simp only [hw, if_true]
      left
      have objsSame : ∀ q, q ∈ x.fp → find e.objs q = foldW (fun q => decide (q < i)) 0 (T.map wO) O0 q := by
        intro q hq
        rw [hA.objs q]
        refine foldW_congr q _ 0 _ _ rfl fun j f hfj hft => ?_
        rw [Nat.zero_add]
        rw [List.getElem?_map] at hfj
        cases hy : T[j]? with
        | none => rw [hy] at hfj; simp at hfj
        | some y =>
          rw [hy] at hfj
          simp only [Option.map_some, Option.some.injEq] at hfj
          subst hfj
          have hyd : y.did = true ∧ q ∈ y.n :: y.wr := by
            unfold wO at hft
            by_cases h : y.did = true ∧ q ∈ y.n :: y.wr
            · exact h
            · rw [if_neg h] at hft; exact absurd rfl hft
          rcases Nat.lt_trichotomy j i with hlt | rfl | hgt
          · have : listed.getD j false = true := by
              obtain ⟨anc, ha, hc⟩ := hC j i y x hlt hy hx hyd.1 hdid
              rcases hc with h | ⟨h, _⟩
              · exact ahead anc ha j h
              · exact absurd (List.mem_cons_of_mem _ hq) (h q hyd.2)
            simp [this, hlt]
          · simp [hLi]
          · cases hLj : listed.getD j false with
            | false => simp; omega
            | true =>
              exfalso
              obtain ⟨anc, ha, hc⟩ := hC i j x y hgt hx hy hdid hyd.1
              rcases hc with h | ⟨_, h⟩
              · exact later j hLj anc ha h
              · exact h q (List.mem_cons_of_mem _ hq) hyd.2
      have hwsub : ∀ q, q ∈ x.n :: x.wr → q ∈ x.n :: x.fp := by
        intro q hq
        rcases hwr with ⟨_, h⟩ | h
        · rw [h] at hq
          rcases List.mem_cons.1 hq with h | h
          · subst h; exact List.mem_cons_self
          · simp at h
        · rw [h] at hq; exact hq
      have hok0 : ObjsOk w0 G0 m e.objs := by have := hA.rel.ok; rwa [List.append_nil] at this
      -- the relation, told of what it looks at; all else lies beside it
      have hR0 : Rel w0 G0 N (without x.fp e.objs) m E0 tm := by
        refine ⟨hok0.congr fun q => ?_, fun q ob hq => ?_, hA.rel.tms, fun t sv ht => ?_⟩
        · rw [find_append, hE2, find_without]
          by_cases hq : q ∈ x.fp
          · simp only [hq, if_true]
            rw [← objsSame q hq]
            cases find e.objs q <;> rfl
          · simp only [hq, if_false]
        · rw [hE2] at hq
          rw [find_without]
          by_cases h : q ∈ x.fp
          · rw [if_pos h]
          · rw [if_neg h] at hq; cases hq
        · rw [hE1] at ht
          by_cases h : t ∈ tmpsOf o.op.operands.toList
          · rw [if_pos h, ← slotsSame t (looks_ops h)] at ht
            exact hA.rel.slots t sv ht
          · rw [if_neg h] at ht; cases ht
      have hfr : ¬ m.D E0.next := by
        rw [hE3, hxn]
        intro hD
        rcases hA.names _ hD with h | ⟨j, _, hj, h⟩
        · omega
        · have : j = i := by omega
          subst this
          rw [hLi] at hj
          cases hj
      refine op_sound (a := ⟨tm, []⟩) hΓ hΔ hR0 hfr o hev ?_
      intro m' e' s v ⟨g1, g2, g3, g4, g5⟩
      have e2 : (s, e') = (x.sv, e1) := Option.some.inj g5
      have es : s = x.sv := congrArg Prod.fst e2
      have ee : e' = e1 := congrArg Prod.snd e2
      subst es; subst ee
      have hxn' : E0.next = x.n := hE3
      -- the objects behind it
      have hsub : ∀ q ob, find (only (x.n :: x.wr) e'.objs ++ without (x.n :: x.wr) e.objs) q = some ob → find (e'.objs ++ without x.fp e.objs) q = some ob := by
        intro q ob hq
        rw [find_mix] at hq
        by_cases h : q ∈ x.n :: x.wr
        · rw [if_pos h] at hq
          exact find_left hq
        · rw [if_neg h] at hq
          by_cases hqf : q ∈ x.fp
          · rcases hwr with ⟨hrd, hw0⟩ | hw0
            · have hqn : q ≠ E0.next := fun hh => h (by rw [← hxn', ← hh]; exact List.mem_cons_self)
              have := g2 hrd q hqn
              rw [hE2, if_pos hqf, ← objsSame q hqf, hq] at this
              exact find_left this
            · exact absurd (List.mem_cons_of_mem _ (by rw [hw0]; exact hqf)) h
          · have hFq : find (without x.fp e.objs) q = some ob := by rw [find_without, if_neg hqf]; exact hq
            have hn : find e'.objs q = none := by
              cases hz : find e'.objs q with
              | none => rfl
              | some z =>
                have := g3.disj q z hz
                rw [hFq] at this
                cases this
            rw [find_append, hn]
            exact hFq
      have hR1 : Rel w0 G0 N [] m' ⟨e.slots, only (x.n :: x.wr) e'.objs ++ without (x.n :: x.wr) e.objs, e.next⟩ tm := by
        refine ⟨by rw [List.append_nil]; exact g3.ok.sub hsub, fun _ _ _ => rfl, hA.rel.tms, fun t sv ht => ?_⟩
        obtain ⟨u, hu, hs⟩ := hA.rel.slots t sv ht
        exact ⟨u, hu, hs.le g1.le⟩
      rw [put_act]
      refine ih _ m' (Env.put ⟨e.slots, only (x.n :: x.wr) e'.objs ++ without (x.n :: x.wr) e.objs, e.next⟩ o.dst x.sv) _ hleft ⟨by simp [hA.size], hR1.put (hdst o (List.mem_of_getElem? hoa)) g4, slots' _ rfl, fun q => ?_, fun q hq => ?_, closed'⟩
      · rw [put_objs]
        simp only
        rw [find_mix]
        have hxi : (T.map wO)[i]? = some (wO x) := by rw [List.getElem?_map, hx]; rfl
        by_cases h : q ∈ x.n :: x.wr
        · rw [if_pos h]
          have : wO x q = some (find e'.objs q) := by
            unfold wO
            rw [if_pos ⟨hdid, h⟩, hout]
          rw [foldW_hit q (find e'.objs q) _ 0 _ i (wO x) hxi this (by rw [Nat.zero_add, hLset, if_pos rfl]) ?_]
          intro j f hlt hfj hLj
          rw [List.getElem?_map] at hfj
          cases hy : T[j]? with
          | none => rw [hy] at hfj; simp at hfj
          | some y =>
            rw [hy] at hfj
            simp only [Option.map_some, Option.some.injEq] at hfj
            subst hfj
            rw [Nat.zero_add, hLset, if_neg (by omega)] at hLj
            unfold wO
            rw [if_neg]
            intro hyd
            obtain ⟨anc, ha, hc⟩ := hC i j x y hlt hx hy hdid hyd.1
            rcases hc with hc | ⟨_, hc⟩
            · exact later j hLj anc ha hc
            · exact hc q (hwsub q h) hyd.2
        · rw [if_neg h, hA.objs q]
          refine foldW_congr q _ 0 _ _ rfl fun j f hfj hft => ?_
          rw [Nat.zero_add, hLset]
          by_cases hij : i = j
          · subst hij
            rw [hxi] at hfj
            obtain rfl := Option.some.inj hfj
            exfalso
            apply hft
            unfold wO
            rw [if_neg fun hh => h hh.2]
          · rw [if_neg hij]
      · rcases g1.D q hq with h | ⟨h, _⟩
        · rcases hA.names q h with h | ⟨j, hj, hjl, rfl⟩
          · exact .inl h
          · refine .inr ⟨j, hj, ?_, rfl⟩
            rw [hLset]
            by_cases hij : i = j
            · rw [if_pos hij]
            · rw [if_neg hij]; exact hjl
        · refine .inr ⟨i, hin, by rw [hLset, if_pos rfl], ?_⟩
          rw [h, hxn', hxn]
    · -- it is left out
      have hw : Region.wanted o (yielded ops tm) = false := by
        obtain ⟨g, want, p, s, sv, v, h1, h2, h3, hv, hsv', h5⟩ := guard hg
        rcases h5 with h5 | h5
        · subst h5
          have : v = .bool (!want) := hsv'
          subst this
          simp only [Region.wanted, h1, yielded_bool hall h2 h3 hv]
          cases want <;> rfl
        · subst h5
          obtain ⟨xs, e2, hxs⟩ := hsv'
          have : xs = [] := by cases xs with
            | nil => rfl
            | cons => exact absurd hxs (by simp [R2])
          subst this
          subst e2
          simp only [Region.wanted, h1, yielded_none hall h2 h3 hv]
          rfl
      simp only [hw, Bool.false_eq_true, if_false]
      rw [put_act]
      have hput := hA.rel.put (d := o.dst) (hdst o (List.mem_of_getElem? hoa)) (undef_sv (m := m))
      rw [← hsv] at hput
      refine ih _ m (e.put o.dst x.sv) _ hleft ⟨by simp [hA.size], hput, slots' e rfl, fun q => ?_, fun q hq => ?_, closed'⟩
      · rw [put_objs, hA.objs q]
        refine foldW_congr q _ 0 _ _ rfl fun j f hfj hft => ?_
        rw [Nat.zero_add, hLset]
        by_cases hij : i = j
        · subst hij
          rw [List.getElem?_map, hx] at hfj
          simp only [Option.map_some, Option.some.injEq] at hfj
          subst hfj
          exfalso
          apply hft
          unfold wO
          rw [if_neg fun hh => by rw [hdid] at hh; cases hh.1]
        · rw [if_neg hij]
      · rcases hA.names q hq with h | ⟨j, hj, hjl, rfl⟩
        · exact .inl h
        · refine .inr ⟨j, hj, ?_, rfl⟩
          rw [hLset]
          by_cases hij : i = j
          · rw [if_pos hij]
          · rw [if_neg hij]; exact hjl

theorem draw_sound (hΓ : TabOk P Γ) (hΔ : DelOk P w0 Δ) (hm : P.follows .mixedOrders = true) : DrawSound P w0 Γ Δ := by
  intro G0 N m e tm k id ρ ops K r Q hdst hok hR hf h hQ
  refine wp_region_any hm ?_
  obtain ⟨T, ef, g1, g2, g3, g4, g5, _, g7⟩ := trace (n0 := e.next) ops.toList 0 [] e (by simp) h
  have hok0 : ObjsOk w0 G0 m e.objs := by have := hR.ok; rwa [List.append_nil] at this
  have hle := le_drew m
  let m' : St := { m with w := m.w.drew }
  have hR' : Rel w0 G0 N [] m' e tm := hR.world hle (hR.ok.world hle hR.ok.base.drew (fun _ _ _ => rfl) (fun b hb => ⟨.inl hb, hR.ok.liveG b hb⟩) (fun b hb => ⟨.inl hb, hR.ok.liveH b hb⟩) (Nat.le_refl _) hR.ok.gh)
  have hw : ({ m.w with drawn := m.w.drawn + 1 } : World) = m'.w := rfl
  rw [hw]
  have hfalse : ∀ j, (Array.replicate ops.size false).getD j false = false := fun j => by
    simp only [Array.getD_eq_getD_getElem?, Array.getElem?_replicate]
    split <;> rfl
  refine any_sound (m := m') (w0 := w0) (G0 := G0) (N := N) hΓ hΔ rfl rfl hdst hok g1 (fun i i' x x' hlt hx hx' hd hd' => by simpa using g7 i i' x x' hlt hx hx' hd hd') ?_ ops.size _ e tm ?_ ⟨by simp, hR', fun t => ?_, fun i => ?_, fun i hi => .inl (hf i hi), fun j o _ hj => by rw [hfalse] at hj; cases hj⟩
  · intro m2 e2 tm2 hR2 hD2 hs2 ho2
    have e1 : find e2.slots = find ef.slots := by rw [g4]; funext t; exact hs2 t
    have e3 : find e2.objs = find ef.objs := by rw [g5]; funext i; exact ho2 i
    refine hQ m2 ef tm2 ⟨?_, fun _ _ _ => rfl, hR2.tms, fun t sv ht => hR2.slots t sv (by rw [e1]; exact ht)⟩ (fun i hi => ?_) g2
    · have := hR2.ok
      rw [List.append_nil] at this ⊢
      exact this.congr fun i => by rw [e3]
    · have := hD2 i hi
      rw [g3]
      simpa using this
  · unfold left
    have := List.length_filter_le (fun i => !(Array.replicate ops.size false).getD i true) (List.range ops.toList.length)
    simpa using this
  · rw [foldW_all_false (fun j _ => hfalse j)]
  · rw [foldW_all_false (fun j _ => hfalse j)]
end
end Go.Ev
end

section
/- A function. -/
set_option linter.unusedSimpArgs false
set_option linter.unusedVariables false
namespace Go.Ev
open Go.RowKit (Below)

section
variable {P : Program} {w0 : World} {G0 : Nat → Prop} {N : Nat} {Γ : Tab} {Δ : List (Nat × Con)} {A : Ann} {m : St} {e : Env} {tm : Array Value}

theorem capsTo_cp : ∀ (ts : List Ty) (x : dens ts) (l : List Value), CapsTo m.w m.G ts x l → (∀ b, b < m.w.heap.size → m.H b) → R2 (Cp m) (startCaps ts x) l
  | [], _, l, h, _ => by simp only [CapsTo] at h; subst h; trivial
  | t :: r, x, [], h, _ => by simp [CapsTo] at h
  | t :: r, x, v :: l, ⟨⟨b, o, cs, e1, hb, hc, hv⟩, h2⟩, hH => ⟨⟨b, o, cs, e1, hH b hb, hc, hv⟩, capsTo_cp r x.2 l h2 hH⟩
theorem startArgs_sound (hH : ∀ b, b < m.w.heap.size → m.H b) : ∀ (ats : List AT) (x : ATs.den ats) (l : List Value) (s : Nat) (e : Env), Args m.w m.G ats x l → (∀ i v, l[i]? = some v → tm[s + i]? = some v) → Rel w0 G0 N [] m e tm → Fresh m e →
    Rel w0 G0 N [] m (startArgs e s ats x) tm ∧ Fresh m (startArgs e s ats x)
  | [], x, l, s, e, h, ht, hR, hf => ⟨hR, hf⟩
  | a :: r, x, [], s, e, h, ht, hR, hf => by simp [Args] at h
  | a :: r, x, v :: l, s, e, ⟨h1, h2⟩, ht, hR, hf => by
    have hs : tm[s]? = some v := ht 0 v rfl
    have key : ∃ sv, startArg e s a x.1 = e.set s sv ∧ Sv m sv v := by
      cases a with
      | val t =>
        obtain ⟨cs, hv, ha⟩ := h1
        exact ⟨_, rfl, sv_ofTy hv ha⟩
      | srt Ts => exact h1.elim
      | ptr t =>
        obtain ⟨b, o, cs, e1, hb, hc, hv⟩ := h1
        exact ⟨.one (.el t x.1 0), rfl, b, o, cs, by simpa using e1, hH b hb, hc, hv⟩
      | clo f ts =>
        obtain ⟨cv, e1, hc⟩ := h1
        exact ⟨.one (.clo f (startCaps ts x.1)), rfl, cv, e1, capsTo_cp ts x.1 cv hc hH⟩
    obtain ⟨sv, e1, hsv⟩ := key
    simp only [startArgs, e1]
    refine startArgs_sound hH r x.2 l (s + 1) _ h2 (fun i u hu => ?_) (hR.reset hs hsv) hf
    have := ht (i + 1) u (by simpa using hu)
    rwa [show s + 1 + i = s + (i + 1) from by omega]

/-- A result variable, read. -/
def resRun (tm : Array Value) : ResultVar → Sem Value
  | .tmp t => pure (tm.getD t undef)
  | .cell a t => do loadVar t (← asAddr (tm.getD a undef))
theorem results_eq (fn : Func) (tm : Array Value) : results fn tm = (do
    let vs ← fn.results.mapM (resRun tm)
    pure (if h : vs.size = 1 then vs[0] else .tuple vs)) := by
  unfold results
  congr 1
theorem run_mapM : ∀ (rs : List ResultVar) (l : List Value) (w : World), R2 (fun r v => (resRun tm r).run P w = .ok v w) rs l → (rs.mapM (resRun tm)).run P w = .ok l w
  | [], [], w, _ => by simp
  | r :: rs, v :: l, w, ⟨h1, h2⟩ => by
    have ih := run_mapM rs l w h2
    simp only [List.mapM_cons, Sem.run_bind, h1, Result.andThen_ok, ih, Sem.run_pure]
  | [], _ :: _, w, h => by simp [R2] at h
  | _ :: _, [], w, h => by simp [R2] at h
theorem results_run (fn : Func) {l : List Value} {w : World} (h : R2 (fun r v => (resRun tm r).run P w = .ok v w) fn.results.toList l) : (results fn tm).run P w = .ok (asRes l) w := by
  have h1 := run_mapM _ _ w h
  rw [results_eq, Array.mapM_eq_mapM_toList]
  simp only [Sem.run_bind, Sem.run_map, h1, Sem.run_pure, Result.andThen_ok]
  match l with
  | [] => simp [asRes]
  | [v] => simp [asRes]
  | a :: b :: r => simp [asRes]

theorem resOf1_sound (hΓ : TabOk P Γ) (hR : Rel w0 G0 N [] m e tm) {t : Ty} {r : ResultVar} {x : t.den} (h : resOf1 Γ e t r = some x) : ∃ v, (resRun tm r).run P m.w = .ok v m.w ∧ Res1 m.w (grown G0 w0 m.w) t x v := by
  have hok : ObjsOk w0 G0 m e.objs := by have := hR.ok; rwa [List.append_nil] at this
  have hob : ∀ i o, find e.objs i = some o → Ob m i o := fun i o hf => (hok.objs i o hf).2
  have hG : ∀ b, m.G b → grown G0 w0 m.w b := fun b hb => (hok.subG b hb).imp id fun h => ⟨h, hok.liveG b hb⟩
  have hRow : ∀ i T u xs a n c, find e.objs i = some (.row T u xs) → m.ν i = .slice (some a) n c → grown G0 w0 m.w a.block := by
    intro i T u xs a n c hf hν
    obtain ⟨_, _, h3, h4⟩ := hok.out i a.block (by simp [blk, hf, hν, Value.ownBlock])
    exact .inr ⟨h4, h3⟩
  cases r with
  | tmp s =>
    simp only [resOf1] at h
    cases hs : e.get s with
    | none => simp [hs] at h
    | some sv =>
      simp only [hs] at h
      obtain ⟨v, hv, hsv⟩ := hR.slots s sv hs
      obtain ⟨cs, h1, h2⟩ := decAll_val (st := false) hob hG (fun _ => hRow) h hsv
      exact ⟨v, by simp [resRun, Array.getD_eq_getD_getElem?, hv], cs, h1, h2⟩
  | cell s T =>
    simp only [resOf1] at h
    cases hf : find Γ T with
    | none => simp [hf] at h
    | some ti =>
      cases hs : e.get s with
      | none => simp [hf, hs] at h
      | some sv =>
        obtain ⟨v, hv, hsv⟩ := hR.slots s sv hs
        cases sv with
        | one y =>
          cases y with
          | loc id off =>
            cases off with
            | succ => simp [hf, hs] at h
            | zero =>
              simp only [hf, hs] at h
              cases ht : tyEq ti.ty t with
              | false => simp [ht] at h
              | true =>
                simp only [ht] at h
                have hty := tyEq_eq ht
                unfold varTy at h
                cases ho : find e.objs id with
                | none => simp [ho] at h
                | some o =>
                  cases o with
                  | var vs =>
                    simp only [ho] at h
                    obtain ⟨cs, U, hh, hr⟩ := hob id _ ho
                    have hval := decCells_val (st := false) hob hG (fun _ => hRow) h hr
                    obtain ⟨_, e1⟩ := hsv
                    obtain ⟨z, g1, g2⟩ := run_load' (hΓ T ti hf) (cells_of_heap hh) (by rw [hty]; exact hval.length)
                    rw [hty] at g2
                    refine ⟨z, ?_, cs, hval, g2⟩
                    rw [← g1]
                    simp [resRun, Array.getD_eq_getD_getElem?, hv, e1, asAddr, Instr.loadAt, Instr.sureAddr]
                  | _ => simp [ho] at h
          | _ => simp [hf, hs] at h
        | _ => simp [hf, hs] at h
theorem finish_sound (hΓ : TabOk P Γ) (hR : Rel w0 G0 N [] m e tm) : ∀ (res : List Ty) (rs : List ResultVar) (x : den1 res), finish Γ e res rs = some x →
    ∃ l, R2 (fun r v => (resRun tm r).run P m.w = .ok v m.w) rs l ∧ Ress m.w (grown G0 w0 m.w) res x l
  | [], [], x, h => ⟨[], trivial, rfl⟩
  | [t], [r], x, h => by
    simp only [finish] at h
    obtain ⟨v, h1, h2⟩ := resOf1_sound hΓ hR h
    exact ⟨[v], ⟨h1, trivial⟩, v, rfl, h2⟩
  | t :: u :: l, r :: rs, x, h => by
    simp only [finish] at h
    cases h1 : resOf1 Γ e t r with
    | none => simp [h1] at h
    | some y =>
      cases h2 : finish Γ e (u :: l) rs with
      | none => simp [h1, h2] at h
      | some z =>
        simp only [h1, h2, Option.some.injEq] at h
        subst h
        obtain ⟨v, g1, g2⟩ := resOf1_sound hΓ hR h1
        obtain ⟨vs, g3, g4⟩ := finish_sound hΓ hR (u :: l) rs z h2
        exact ⟨v :: vs, ⟨g1, g3⟩, v, vs, rfl, g2, g4⟩
  | [], _ :: _, x, h => by simp [finish] at h
  | [_], [], x, h => by simp [finish] at h
  | [_], _ :: _ :: _, x, h => by simp [finish] at h
  | _ :: _ :: _, [], x, h => by simp [finish] at h

theorem args_length : ∀ {ats : List AT} {x : ATs.den ats} {l : List Value} {w : World} {G : Nat → Prop}, Args w G ats x l → l.length = ats.length
  | [], x, l, w, G, h => by simp only [Args] at h; subst h; rfl
  | a :: r, x, [], w, G, h => by simp [Args] at h
  | a :: r, x, v :: l, w, G, ⟨_, h⟩ => by simp [args_length h]

/-- THE FUNCTION KEEPS ITS CONTRACT. -/
theorem fn_sound (hΓ : TabOk P Γ) (hΔ : DelOk P w0 Δ) (hD : ∀ {w : World}, Below w0.heap.size w0 w → DrawSound P w Γ Δ) {f : Nat} {fn : Func} (hf : P.funcs[f]? = some fn) {c : Con} (hok : (match fn.body with
      | some b => codeDst fn.ntmps b && Nat.ble c.args.length fn.ntmps
      | none => false) = true) (heq : ∀ k x, c.fn k x = evFn Γ Δ A fn c.args c.res k x) : ConOk P w0 f c := by
  intro k x r w G args hbw hG hr hargs
  rw [heq] at hr
  unfold evFn at hr
  cases hb : fn.body with
  | none => simp [hb] at hr
  | some b =>
    rw [hb] at hr hok
    simp only [Bool.and_eq_true] at hr hok
    obtain ⟨hdst, hn⟩ := hok
    have hn := Nat.le_of_ble_eq_true hn
    have hlen := args_length hargs
    refine calls_of_wp hf hb ?_
    generalize htm : args.toArray ++ Array.replicate (fn.ntmps - args.toArray.size) undef = tm
    have hsize : tm.size = fn.ntmps := by rw [← htm]; simp; omega
    let m : St := ⟨w, G, fun b => b < w.heap.size, fun _ => 0, fun _ => .bool true, fun _ => False⟩
    have hok0 : ObjsOk w G m [] := ⟨.refl _ _, fun i o hf => by simp [find] at hf, fun i j b hb => by simp [blk, find] at hb, fun i b hb => by simp [blk, find] at hb, hG, fun b hb => hb, fun b hb => .inl hb, hG⟩
    have hR0 : Rel w G fn.ntmps [] m ⟨[], [], 0⟩ tm := ⟨hok0, fun i o hf => by simp [find] at hf, hsize, fun t sv hf => by simp [find] at hf⟩
    obtain ⟨hR, hfr⟩ := startArgs_sound (m := m) (tm := tm) (fun b hb => hb) c.args x args 0 ⟨[], [], 0⟩ hargs (fun i v hv => by
      rw [← htm]
      have hi : i < args.length := (List.getElem?_eq_some_iff.1 hv).1
      simp [Array.getElem?_append, hi]
      exact (List.getElem?_eq_some_iff.1 hv).2) hR0 fun i hi => hi.elim
    refine wp_mono (code_sound hΓ (hΔ.later hbw) (hD hbw) b hdst k some _ _ r m tm hR hfr hr) ?_
    intro ex a w' hp
    have fini : ∀ (m' : St) (e' : Env), Rel w G fn.ntmps [] m' e' a.tmps → finish Γ e' c.res fn.results.toList = some r → ∃ v, (results fn a.tmps).run P m'.w = .ok v m'.w ∧ ∃ l, Ending.returned v = .returned (asRes l) ∧ Below w.heap.size w m'.w ∧ Ress m'.w (grown G w m'.w) c.res r l := by
      intro m' e' hR' hfin
      obtain ⟨l, g1, g2⟩ := finish_sound hΓ hR' _ _ _ hfin
      exact ⟨asRes l, results_run fn g1, l, rfl, hR'.ok.base, g2⟩
    cases ex with
    | normal =>
      obtain ⟨m', e', rfl, hd', hR', _, hK⟩ := hp
      exact ⟨hd', fini m' e' hR' hK⟩
    | ret =>
      obtain ⟨m', e', z, rfl, hd', hR', hz, he⟩ := hp
      obtain rfl := Option.some.inj he
      exact ⟨hd', fini m' e' hR' hz⟩
    | exit i =>
      obtain ⟨m', e', _, _, _, _, hK⟩ := hp
      simp at hK
    | _ => exact hp.elim
end
end Go.Ev
end

section
/- What a claim's own texts use. -/
set_option linter.unusedSimpArgs false
set_option linter.unusedVariables false
namespace Go.Ev

section
variable {P : Program} {Γ : Tab} {Δ : List (Nat × Con)}
theorem DelOk.nil {w0 : World} : DelOk P w0 [] := fun f c h => by simp at h
theorem DelOk.cons {w0 : World} {f : Nat} {c : Con} (h : ConOk P w0 f c) (he : Enters' P f) (hd : DelOk P w0 Δ) (hs : SrtCon P f c := by exact True.intro) : DelOk P w0 ((f, c) :: Δ) := by
  intro g d hm
  rcases List.mem_cons.1 hm with e | e
  · cases e; exact ⟨h, he, hs⟩
  · exact hd g d e
theorem enters' {f : Nat} {fn : Func} (hf : P.funcs[f]? = some fn) (h : (!(fn.name == "runtime.NumGoroutine") && fn.body.isSome) = true) : Enters' P f := by
  intro args w
  simp only [Bool.and_eq_true, Bool.not_eq_true'] at h
  obtain ⟨h1, h2⟩ := h
  have h3 : fn.name ≠ "runtime.NumGoroutine" := by simpa using h1
  cases hb : fn.body with
  | none => rw [hb] at h2; simp at h2
  | some b => simp [callFunc, hf, h3, hb, mark]
theorem draws_of {w0 : World} (hΓ : TabOk P Γ) (hΔ : DelOk P w0 Δ) (hm : P.follows .mixedOrders = true) {w : World} (hb : Go.RowKit.Below w0.heap.size w0 w) : DrawSound P w Γ Δ := draw_sound hΓ (hΔ.later hb) hm
theorem tab_of (h : tabOk P Γ Γ = true) : TabOk P Γ := tabOk_ok h

/-! ### what the equations are made of -/
theorem br_true {ρ : Type} (x y : Option ρ) : br true x y = x := rfl
theorem br_false {ρ : Type} (x y : Option ρ) : br false x y = y := rfl
theorem bnd_none {α ρ : Type} (f : α → Option ρ) : bnd none f = none := rfl
theorem bnd_some' {α ρ : Type} (y : α) (f : α → Option ρ) : bnd (some y) f = f y := rfl
theorem chk_true {ρ : Type} (x : Option ρ) : chk true x = x := rfl
theorem onSum_inl {α ρ σ : Type} (y : α) (f : α → Option σ) (g : ρ → Option σ) : onSum (.inl y : α ⊕ ρ) f g = f y := rfl
theorem onSum_inr {α ρ σ : Type} (z : ρ) (f : α → Option σ) (g : ρ → Option σ) : onSum (.inr z : α ⊕ ρ) f g = g z := rfl
end
end Go.Ev
end

section
/- Stable order: the library's steps on an array, as lists. -/
set_option linter.unusedSimpArgs false
set_option linter.unusedVariables false
set_option linter.unusedSectionVars false
namespace Go.Ev
open Go.Sort (swp)
section
variable {α : Type} [Inhabited α]
theorem arr_get {d : Array α} {P Q : List α} {x : α} (h : d.toList = P ++ x :: Q) : d[P.length]! = x := by
  have : d.toList[P.length]? = some x := by rw [h]; simp
  have hs : P.length < d.size := by
    rw [← Array.length_toList, h]; simp
  rw [getElem!_pos d P.length hs]
  rw [← Array.getElem_toList] 
  rw [List.getElem?_eq_getElem (by simpa using hs)] at this
  exact Option.some.inj this
theorem swp_list {d : Array α} {P M Q : List α} {x y : α} (h : d.toList = P ++ x :: (M ++ y :: Q)) {i j : Nat} (hi : i = P.length) (hj : j = P.length + 1 + M.length) : (swp d i j).toList = P ++ y :: (M ++ x :: Q) := by
  subst hi
  have hx : d[P.length]! = x := arr_get h
  have h' : d.toList = (P ++ x :: M) ++ y :: Q := by rw [h]; simp
  have hy : d[j]! = y := by
    have := arr_get h'
    rw [hj]
    simpa [Nat.add_assoc, Nat.add_comm 1] using this
  unfold swp
  rw [hx, hy]
  simp only [Array.toList_setIfInBounds]
  rw [h, List.set_append_right _ _ (Nat.le_refl _)]
  simp only [Nat.sub_self, List.set_cons_zero]
  rw [List.set_append_right _ _ (by omega), show j - P.length = M.length + 1 by omega]
  simp only [List.set_cons_succ]
  rw [List.set_append_right _ _ (Nat.le_refl _)]
  simp
theorem swp_list' {d : Array α} {P M Q : List α} {x y : α} (h : d.toList = P ++ x :: (M ++ y :: Q)) {i j : Nat} (hi : i = P.length) (hj : j = P.length + 1 + M.length) : (swp d j i).toList = P ++ y :: (M ++ x :: Q) := by
  subst hi
  have hx : d[P.length]! = x := arr_get h
  have h' : d.toList = (P ++ x :: M) ++ y :: Q := by rw [h]; simp
  have hy : d[j]! = y := by
    have := arr_get h'
    rw [hj]
    simpa [Nat.add_assoc, Nat.add_comm 1] using this
  unfold swp
  rw [hx, hy]
  simp only [Array.toList_setIfInBounds]
  rw [h, List.set_append_right _ _ (by omega), show j - P.length = M.length + 1 by omega]
  simp only [List.set_cons_succ]
  rw [List.set_append_right _ _ (Nat.le_refl _), List.set_append_right _ _ (Nat.le_refl _)]
  simp
/-- swapRange_func: k swaps left, from i on -/
def swr (a b : Nat) : Nat → Nat → Array α → Array α
  | 0, _, d => d
  | k + 1, i, d => swr a b k (i + 1) (swp d (a + i) (b + i))
theorem swr_size (a b : Nat) : ∀ (k i : Nat) (d : Array α), (swr a b k i d).size = d.size
  | 0, _, _ => rfl
  | k + 1, i, d => by rw [swr, swr_size a b k]; simp [swp]
theorem swr_list (a b : Nat) : ∀ (k i : Nat) (d : Array α) (P X M Y Q : List α), d.toList = P ++ (X ++ (M ++ (Y ++ Q))) → X.length = k → Y.length = k → a + i = P.length → b + i = P.length + X.length + M.length →
    (swr a b k i d).toList = P ++ (Y ++ (M ++ (X ++ Q)))
  | 0, i, d, P, X, M, Y, Q, h, hx, hy, _, _ => by
    have := List.eq_nil_of_length_eq_zero hx; subst this
    have := List.eq_nil_of_length_eq_zero hy; subst this
    exact h
  | k + 1, i, d, P, x :: X, M, y :: Y, Q, h, hx, hy, ha, hb => by
    simp only [List.length_cons, Nat.add_right_cancel_iff] at hx hy hb
    have h0 : d.toList = P ++ x :: ((X ++ M) ++ y :: (Y ++ Q)) := by rw [h]; simp
    have h1 := swp_list h0 (i := a + i) (j := b + i) ha (by simp; omega)
    rw [swr]
    have := swr_list a b k (i + 1) (swp d (a + i) (b + i)) (P ++ [y]) X (M ++ [x]) Y Q (by rw [h1]; simp) hx hy (by simp; omega) (by simp; omega)
    rw [this]; simp
  | k + 1, i, d, P, [], M, Y, Q, h, hx, hy, _, _ => by simp at hx
  | k + 1, i, d, P, x :: X, M, [], Q, h, hx, hy, _, _ => by simp at hy
/-- rotate_func: what it comes to -/
def rotA (d : Array α) (a m b : Nat) : Array α := (d.toList.take a ++ ((d.toList.take b).drop m ++ ((d.toList.take m).drop a ++ d.toList.drop b))).toArray
theorem rotA_list {d : Array α} {P X Y Q : List α} (h : d.toList = P ++ (X ++ (Y ++ Q))) {a m b : Nat} (ha : a = P.length) (hm : m = P.length + X.length) (hb : b = P.length + X.length + Y.length) : (rotA d a m b).toList = P ++ (Y ++ (X ++ Q)) := by
  subst ha; subst hm; subst hb
  simp only [rotA, h]
  have e1 : (P ++ (X ++ (Y ++ Q))).take P.length = P := by simp
  have e2 : (P ++ (X ++ (Y ++ Q))).take (P.length + X.length) = P ++ X := by
    rw [← List.append_assoc P X, List.take_append_of_le_length (by simp), List.take_of_length_le (by simp)]
  have e3 : (P ++ (X ++ (Y ++ Q))).take (P.length + X.length + Y.length) = (P ++ X) ++ Y := by
    rw [show P ++ (X ++ (Y ++ Q)) = ((P ++ X) ++ Y) ++ Q by simp, List.take_append_of_le_length (by simp; omega), List.take_of_length_le (by simp; omega)]
  have e4 : (P ++ (X ++ (Y ++ Q))).drop (P.length + X.length + Y.length) = Q := by
    rw [show P ++ (X ++ (Y ++ Q)) = ((P ++ X) ++ Y) ++ Q by simp, List.drop_append_of_le_length (by simp; omega), List.drop_of_length_le (by simp; omega)]
    simp
  rw [e1, e2, e3, e4]
  have e5 : ((P ++ X) ++ Y).drop (P.length + X.length) = Y := by
    rw [List.drop_append_of_le_length (by simp), List.drop_of_length_le (by simp)]; simp
  rw [e5]
  simp
theorem cut4 (l : List α) {a m b : Nat} (h1 : a ≤ m) (h2 : m ≤ b) (h3 : b ≤ l.length) : ∃ P X Y Q, l = P ++ (X ++ (Y ++ Q)) ∧ a = P.length ∧ m = P.length + X.length ∧ b = P.length + X.length + Y.length := by
  refine ⟨l.take a, (l.drop a).take (m - a), (l.drop m).take (b - m), l.drop b, ?_, by simp; omega, by simp; omega, by simp; omega⟩
  have e1 : (l.drop m).take (b - m) ++ l.drop b = l.drop m := by
    rw [show l.drop b = (l.drop m).drop (b - m) by rw [List.drop_drop]; congr 1; omega]
    exact List.take_append_drop _ _
  have e2 : (l.drop a).take (m - a) ++ l.drop m = l.drop a := by
    rw [show l.drop m = (l.drop a).drop (m - a) by rw [List.drop_drop]; congr 1; omega]
    exact List.take_append_drop _ _
  rw [e1, e2, List.take_append_drop]
theorem arr_eq {a b : Array α} (h : a.toList = b.toList) : a = b := Array.toList_inj.1 h
theorem rotA_size {d : Array α} {a m b : Nat} (h1 : a ≤ m) (h2 : m ≤ b) (h3 : b ≤ d.size) : (rotA d a m b).size = d.size := by
  obtain ⟨P, X, Y, Q, h, ha, hm, hb⟩ := cut4 d.toList h1 h2 (by simpa using h3)
  rw [← Array.length_toList, rotA_list h ha hm hb, ← Array.length_toList, h]
  simp; omega
/-- rotate_func's rounds -/
theorem rot_more {d : Array α} {m i j : Nat} (hij : j < i) (hi : i ≤ m) (hj : m + j ≤ d.size) : rotA (swr (m - i) m j 0 d) (m - (i - j)) m (m + j) = rotA d (m - i) m (m + j) := by
  obtain ⟨P, X, Y, Q, h, ha, hm, hb⟩ := cut4 d.toList (a := m - i) (m := m) (b := m + j) (by omega) (by omega) (by simpa using hj)
  have hX : X = X.take j ++ X.drop j := (List.take_append_drop j X).symm
  have l1 : (X.take j).length = j := by simp; omega
  have l2 : (X.drop j).length = i - j := by simp; omega
  generalize X.take j = X1 at hX l1
  generalize X.drop j = X2 at hX l2
  subst hX
  simp only [List.length_append] at hm hb
  apply arr_eq
  rw [rotA_list h ha (by simp; omega) (by simp; omega)]
  have hs := swr_list (m - i) m j 0 d P X1 X2 Y Q (by rw [h]; simp) l1 (by omega) (by omega) (by omega)
  rw [rotA_list (P := P ++ Y) (X := X2) (Y := X1) (Q := Q) (by rw [hs]; simp) (by simp; omega) (by simp; omega) (by simp; omega)]
  simp
theorem rot_less {d : Array α} {m i j : Nat} (hij : i < j) (hi : i ≤ m) (hj : m + j ≤ d.size) : rotA (swr (m - i) (m + j - i) i 0 d) (m - i) m (m + (j - i)) = rotA d (m - i) m (m + j) := by
  obtain ⟨P, X, Y, Q, h, ha, hm, hb⟩ := cut4 d.toList (a := m - i) (m := m) (b := m + j) (by omega) (by omega) (by simpa using hj)
  have hY : Y = Y.take (j - i) ++ Y.drop (j - i) := (List.take_append_drop _ Y).symm
  have l1 : (Y.take (j - i)).length = j - i := by simp; omega
  have l2 : (Y.drop (j - i)).length = i := by simp; omega
  generalize Y.take (j - i) = Y1 at hY l1
  generalize Y.drop (j - i) = Y2 at hY l2
  subst hY
  simp only [List.length_append] at hb
  apply arr_eq
  rw [rotA_list h ha (by omega) (by simp; omega)]
  have hs := swr_list (m - i) (m + j - i) i 0 d P X Y1 Y2 Q (by rw [h]; simp) (by omega) l2 (by omega) (by omega)
  rw [rotA_list (P := P) (X := Y2) (Y := Y1) (Q := X ++ Q) (by rw [hs]) (by omega) (by omega) (by omega)]
  simp
theorem rot_end {d : Array α} {m i : Nat} (hi : i ≤ m) (hj : m + i ≤ d.size) : swr (m - i) m i 0 d = rotA d (m - i) m (m + i) := by
  obtain ⟨P, X, Y, Q, h, ha, hm, hb⟩ := cut4 d.toList (a := m - i) (m := m) (b := m + i) (by omega) (by omega) (by simpa using hj)
  apply arr_eq
  rw [rotA_list h ha hm hb]
  have hs := swr_list (m - i) m i 0 d P X [] Y Q (by rw [h]; simp) (by omega) (by omega) (by omega) (by simp; omega)
  rw [hs]; simp
/-- symMerge_func: what it comes to -/
def mrgA (lt : α → α → Bool) (d : Array α) (a m b : Nat) : Array α := (d.toList.take a ++ (mrg lt ((d.toList.take m).drop a) ((d.toList.take b).drop m) ++ d.toList.drop b)).toArray
theorem cuts {d : Array α} {P X Y Q : List α} (h : d.toList = P ++ (X ++ (Y ++ Q))) {a m b : Nat} (ha : a = P.length) (hm : m = P.length + X.length) (hb : b = P.length + X.length + Y.length) :
    d.toList.take a = P ∧ (d.toList.take m).drop a = X ∧ (d.toList.take b).drop m = Y ∧ d.toList.drop b = Q := by
  subst ha; subst hm; subst hb
  have e2 : (P ++ (X ++ (Y ++ Q))).take (P.length + X.length) = P ++ X := by
    rw [← List.append_assoc P X, List.take_append_of_le_length (by simp), List.take_of_length_le (by simp)]
  have e3 : (P ++ (X ++ (Y ++ Q))).take (P.length + X.length + Y.length) = (P ++ X) ++ Y := by
    rw [show P ++ (X ++ (Y ++ Q)) = ((P ++ X) ++ Y) ++ Q by simp, List.take_append_of_le_length (by simp; omega), List.take_of_length_le (by simp; omega)]
  have e4 : (P ++ (X ++ (Y ++ Q))).drop (P.length + X.length + Y.length) = Q := by
    rw [show P ++ (X ++ (Y ++ Q)) = ((P ++ X) ++ Y) ++ Q by simp, List.drop_append_of_le_length (by simp; omega), List.drop_of_length_le (by simp; omega)]
    simp
  rw [h, e2, e3, e4]
  refine ⟨by simp, by simp, ?_, rfl⟩
  rw [List.drop_append_of_le_length (by simp), List.drop_of_length_le (by simp)]; simp
theorem mrgA_list (lt : α → α → Bool) {d : Array α} {P X Y Q : List α} (h : d.toList = P ++ (X ++ (Y ++ Q))) {a m b : Nat} (ha : a = P.length) (hm : m = P.length + X.length) (hb : b = P.length + X.length + Y.length) : (mrgA lt d a m b).toList = P ++ (mrg lt X Y ++ Q) := by
  obtain ⟨e1, e2, e3, e4⟩ := cuts h ha hm hb
  simp only [mrgA, e1, e2, e3, e4]
theorem mrgA_size (lt : α → α → Bool) {d : Array α} {a m b : Nat} (h1 : a ≤ m) (h2 : m ≤ b) (h3 : b ≤ d.size) : (mrgA lt d a m b).size = d.size := by
  obtain ⟨P, X, Y, Q, h, ha, hm, hb⟩ := cut4 d.toList h1 h2 (by simpa using h3)
  rw [← Array.length_toList, mrgA_list lt h ha hm hb, ← Array.length_toList, h]
  simp [mrg_length]; omega
end
end Go.Ev
end

section
/- Stable order: the library's merge in place. -/
set_option linter.unusedSimpArgs false
set_option linter.unusedVariables false
set_option linter.unusedSectionVars false
namespace Go.Ev
open Go.Sort (swp)
section
variable {α : Type} [Inhabited α] {lt : α → α → Bool}
abbrev seg (d : Array α) (a m : Nat) : List α := (d.toList.take m).drop a
theorem seg_mem {d : Array α} {a m : Nat} (hm : m ≤ d.size) {x : α} : x ∈ seg d a m ↔ ∃ i, a ≤ i ∧ i < m ∧ d[i]! = x := by
  have hg : ∀ i (hi : i < d.size), d[i]! = d.toList[i]'(by simpa using hi) := fun i hi => by rw [getElem!_pos d i hi, Array.getElem_toList]
  constructor
  · intro h
    obtain ⟨j, hj, e⟩ := List.mem_iff_getElem.1 h
    simp only [List.length_drop, List.length_take, Array.length_toList] at hj
    refine ⟨a + j, by omega, by omega, ?_⟩
    rw [hg _ (by omega), ← e]
    simp
  · rintro ⟨i, h1, h2, rfl⟩
    rw [hg _ (by omega)]
    refine List.mem_iff_getElem.2 ⟨i - a, by simp; omega, ?_⟩
    simp [show a + (i - a) = i by omega]
theorem seg_srt {d : Array α} {a m : Nat} (hm : m ≤ d.size) : Srt lt (seg d a m) ↔ ∀ i j, a ≤ i → i < j → j < m → lt d[j]! d[i]! = false := by
  have hg : ∀ i (hi : i < d.size), d[i]! = d.toList[i]'(by simpa using hi) := fun i hi => by rw [getElem!_pos d i hi, Array.getElem_toList]
  unfold Srt
  rw [List.pairwise_iff_getElem]
  constructor
  · intro h i j h1 h2 h3
    have := h (i - a) (j - a) (by simp; omega) (by simp; omega) (by omega)
    simp only [List.getElem_drop, List.getElem_take] at this
    rw [hg i (by omega), hg j (by omega)]
    simpa [show a + (i - a) = i by omega, show a + (j - a) = j by omega] using this
  · intro h i j hi hj hij
    simp only [List.length_drop, List.length_take, Array.length_toList] at hi hj
    have := h (a + i) (a + j) (by omega) (by omega) (by omega)
    rw [hg _ (by omega), hg _ (by omega)] at this
    simpa using this
/-- k swaps, upwards -/
def bubU : Nat → Nat → Array α → Array α
  | 0, _, d => d
  | c + 1, k, d => bubU c (k + 1) (swp d k (k + 1))
def bubD : Nat → Nat → Array α → Array α
  | 0, _, d => d
  | c + 1, k, d => bubD c (k - 1) (swp d k (k - 1))
theorem bubU_size : ∀ (c k : Nat) (d : Array α), (bubU c k d).size = d.size
  | 0, _, _ => rfl
  | c + 1, k, d => by rw [bubU, bubU_size c]; simp [swp]
theorem bubD_size : ∀ (c k : Nat) (d : Array α), (bubD c k d).size = d.size
  | 0, _, _ => rfl
  | c + 1, k, d => by rw [bubD, bubD_size c]; simp [swp]
theorem bubU_list : ∀ (c k : Nat) (d : Array α) (P Y R : List α) (x : α), d.toList = P ++ x :: (Y ++ R) → k = P.length → Y.length = c → (bubU c k d).toList = P ++ (Y ++ x :: R)
  | 0, k, d, P, Y, R, x, h, hk, hy => by
    have := List.eq_nil_of_length_eq_zero hy; subst this
    exact h
  | c + 1, k, d, P, y :: Y, R, x, h, hk, hy => by
    have h1 := swp_list (M := []) (by simpa using h) hk (j := k + 1) (by simp; omega)
    rw [bubU, bubU_list c (k + 1) _ (P ++ [y]) Y R x (by rw [h1]; simp) (by simp; omega) (by simpa using hy)]
    simp
  | c + 1, k, d, P, [], R, x, h, hk, hy => by simp at hy
theorem bubD_list : ∀ (c k : Nat) (d : Array α) (P X R : List α) (y : α), d.toList = P ++ (X ++ y :: R) → k = P.length + X.length → X.length = c → (bubD c k d).toList = P ++ y :: (X ++ R)
  | 0, k, d, P, X, R, y, h, hk, hx => by
    have := List.eq_nil_of_length_eq_zero hx; subst this
    exact h
  | c + 1, k, d, P, X, R, y, h, hk, hx => by
    obtain ⟨X', x, rfl⟩ : ∃ X' x, X = X' ++ [x] := ⟨X.dropLast, X.getLast (by intro e; simp [e] at hx), (List.dropLast_concat_getLast _).symm⟩
    simp only [List.length_append, List.length_cons, List.length_nil, Nat.zero_add] at hk hx
    have h0 : d.toList = (P ++ X') ++ x :: ([] ++ y :: R) := by rw [h]; simp
    have h1 := swp_list' h0 (i := k - 1) (j := k) (by simp; omega) (by simp; omega)
    rw [bubD, bubD_list c (k - 1) _ P X' (x :: R) y (by rw [h1]; simp) (by omega) (by omega)]
    simp
/-- one element ahead of a sorted range -/
theorem sym_one {d : Array α} (h : Weak lt) {a b i : Nat} (h1 : a + 1 ≤ i) (h2 : i ≤ b) (h3 : b ≤ d.size) (hl : ∀ k, a + 1 ≤ k → k < i → lt d[k]! d[a]! = true) (hr : ∀ k, i ≤ k → k < b → lt d[k]! d[a]! = false) : bubU (i - 1 - a) a d = mrgA lt d a (a + 1) b := by
  obtain ⟨P, X, Y, Q, hd, ha, hm, hb⟩ := cut4 d.toList (a := a) (m := a + 1) (b := b) (by omega) (by omega) (by simpa using h3)
  obtain ⟨x, rfl⟩ : ∃ x, X = [x] := by
    match X with
    | [x] => exact ⟨x, rfl⟩
    | [] => simp at hm; omega
    | _ :: _ :: _ => simp at hm; omega
  simp only [List.length_cons, List.length_nil] at hm hb
  have hc := cuts hd ha (m := a + 1) (b := b) (by simp; omega) (by simp; omega)
  have hxa : d[a]! = x := by rw [ha]; exact arr_get (by rw [hd]; rfl)
  have hY : Y = Y.take (i - (a + 1)) ++ Y.drop (i - (a + 1)) := (List.take_append_drop _ Y).symm
  have e1 : ∀ y ∈ Y.take (i - (a + 1)), lt y x = true := fun y hy => by
    have hs : Y.take (i - (a + 1)) = seg d (a + 1) i := by
      rw [← hc.2.2.1]
      show ((d.toList.take b).drop (a + 1)).take (i - (a + 1)) = _
      rw [← List.drop_take, List.take_take, Nat.min_eq_left h2]
    rw [hs] at hy
    obtain ⟨k, g1, g2, rfl⟩ := (seg_mem (by omega)).1 hy
    rw [← hxa]; exact hl k g1 g2
  have e2 : ∀ y ∈ Y.drop (i - (a + 1)), lt y x = false := fun y hy => by
    have hs : Y.drop (i - (a + 1)) = seg d i b := by
      rw [← hc.2.2.1, List.drop_drop]
      congr 1; omega
    rw [hs] at hy
    obtain ⟨k, g1, g2, rfl⟩ := (seg_mem h3).1 hy
    rw [← hxa]; exact hr k g1 g2
  have l1 : (Y.take (i - (a + 1))).length = i - (a + 1) := by simp; omega
  generalize Y.take (i - (a + 1)) = Y1 at hY e1 l1
  generalize Y.drop (i - (a + 1)) = Y2 at hY e2
  subst hY
  apply arr_eq
  rw [mrgA_list lt hd ha (by simp; omega) (by simp at hb ⊢; omega), one_mrg h x Y1 Y2 e1 e2]
  rw [bubU_list (i - 1 - a) a d P Y1 (Y2 ++ Q) x (by rw [hd]; simp) ha (by omega)]
  simp
/-- one element behind a sorted range -/
theorem sym_last {d : Array α} (h : Weak lt) {a m i : Nat} (h1 : a ≤ i) (h2 : i ≤ m) (h3 : m + 1 ≤ d.size) (hl : ∀ k, a ≤ k → k < i → lt d[m]! d[k]! = false) (hr : ∀ k, i ≤ k → k < m → lt d[m]! d[k]! = true) : bubD (m - i) m d = mrgA lt d a m (m + 1) := by
  obtain ⟨P, X, Y, Q, hd, ha, hm, hb⟩ := cut4 d.toList (a := a) (m := m) (b := m + 1) (by omega) (by omega) (by simpa using h3)
  obtain ⟨y, rfl⟩ : ∃ y, Y = [y] := by
    match Y with
    | [y] => exact ⟨y, rfl⟩
    | [] => simp at hb; omega
    | _ :: _ :: _ => simp at hb; omega
  have hc := cuts hd ha hm hb
  have hym : d[m]! = y := by
    have : d.toList = (P ++ X) ++ y :: Q := by rw [hd]; simp
    have := arr_get this
    rwa [show (P ++ X).length = m by simp; omega] at this
  have hX : X = X.take (i - a) ++ X.drop (i - a) := (List.take_append_drop _ X).symm
  have e1 : ∀ x ∈ X.take (i - a), lt y x = false := fun x hx => by
    have hs : X.take (i - a) = seg d a i := by
      rw [← hc.2.1, ← List.drop_take, List.take_take, Nat.min_eq_left h2]
    rw [hs] at hx
    obtain ⟨k, g1, g2, rfl⟩ := (seg_mem (by omega)).1 hx
    rw [← hym]; exact hl k g1 g2
  have e2 : ∀ x ∈ X.drop (i - a), lt y x = true := fun x hx => by
    have hs : X.drop (i - a) = seg d i m := by
      rw [← hc.2.1, List.drop_drop]
      congr 1; omega
    rw [hs] at hx
    obtain ⟨k, g1, g2, rfl⟩ := (seg_mem (by omega)).1 hx
    rw [← hym]; exact hr k g1 g2
  have l1 : (X.drop (i - a)).length = m - i := by simp; omega
  generalize X.take (i - a) = X1 at hX e1
  generalize X.drop (i - a) = X2 at hX e2 l1
  subst hX
  apply arr_eq
  simp only [List.length_append] at hm
  rw [mrgA_list lt hd ha (by simp; omega) hb, mrg_one h y X1 X2 e1 e2]
  rw [bubD_list (m - i) m d (P ++ X1) X2 Q y (by rw [hd]; simp) (by simp; omega) l1]
  simp
/-- the halves -/
theorem sym_halves {d : Array α} (h : Weak lt) {a m b s e mid : Nat} (h1 : a ≤ s) (h2 : s ≤ m) (h3 : m ≤ e) (h4 : e ≤ b) (h5 : b ≤ d.size) (hn : s + e = mid + m)
    (hl : ∀ i j, a ≤ i → i < s → e ≤ j → j < b → lt d[j]! d[i]! = false) (hr : ∀ i j, s ≤ i → i < m → m ≤ j → j < e → lt d[j]! d[i]! = true) :
    mrgA lt (mrgA lt (rotA d s m e) a s mid) mid e b = mrgA lt d a m b ∧ (Srt lt (seg d a m) → Srt lt (seg d m b) →
      Srt lt (seg (rotA d s m e) a s) ∧ Srt lt (seg (rotA d s m e) s mid) ∧ Srt lt (seg (mrgA lt (rotA d s m e) a s mid) mid e) ∧ Srt lt (seg (mrgA lt (rotA d s m e) a s mid) e b)) := by
  obtain ⟨P, X, Y, Q, hd, ha, hm, hb⟩ := cut4 d.toList (a := a) (m := m) (b := b) (by omega) (by omega) (by simpa using h5)
  have hc := cuts hd ha hm hb
  have hX : X = X.take (s - a) ++ X.drop (s - a) := (List.take_append_drop _ X).symm
  have hY : Y = Y.take (e - m) ++ Y.drop (e - m) := (List.take_append_drop _ Y).symm
  have s1 : X.take (s - a) = seg d a s := by rw [← hc.2.1, ← List.drop_take, List.take_take, Nat.min_eq_left h2]
  have s2 : X.drop (s - a) = seg d s m := by
    rw [← hc.2.1, List.drop_drop]; congr 1; omega
  have s3 : Y.take (e - m) = seg d m e := by rw [← hc.2.2.1, ← List.drop_take, List.take_take, Nat.min_eq_left h4]
  have s4 : Y.drop (e - m) = seg d e b := by
    rw [← hc.2.2.1, List.drop_drop]; congr 1; omega
  have l1 : (X.take (s - a)).length = s - a := by simp; omega
  have l2 : (X.drop (s - a)).length = m - s := by simp; omega
  have l3 : (Y.take (e - m)).length = e - m := by simp; omega
  have l4 : (Y.drop (e - m)).length = b - e := by simp; omega
  have q1 : ∀ x ∈ X.take (s - a), ∀ y ∈ Y.drop (e - m), lt y x = false := fun x hx y hy => by
    rw [s1] at hx; rw [s4] at hy
    obtain ⟨i, g1, g2, rfl⟩ := (seg_mem (by omega)).1 hx
    obtain ⟨j, g3, g4, rfl⟩ := (seg_mem h5).1 hy
    exact hl i j g1 g2 g3 g4
  have q2 : ∀ y ∈ Y.take (e - m), ∀ x ∈ X.drop (s - a), lt y x = true := fun y hy x hx => by
    rw [s2] at hx; rw [s3] at hy
    obtain ⟨i, g1, g2, rfl⟩ := (seg_mem (by omega)).1 hx
    obtain ⟨j, g3, g4, rfl⟩ := (seg_mem (by omega)).1 hy
    exact hr i j g1 g2 g3 g4
  have eX : seg d a m = X := hc.2.1
  have eY : seg d m b = Y := hc.2.2.1
  rw [eX, eY]
  clear s1 s2 s3 s4 hc eX eY
  generalize X.take (s - a) = A1 at *
  generalize X.drop (s - a) = A2 at *
  generalize Y.take (e - m) = B1 at *
  generalize Y.drop (e - m) = B2 at *
  subst hX; subst hY
  simp only [List.length_append] at hm hb
  have hd' : d.toList = (P ++ A1) ++ (A2 ++ (B1 ++ (B2 ++ Q))) := by rw [hd]; simp
  have r0 := rotA_list hd' (a := s) (m := m) (b := e) (by simp; omega) (by simp; omega) (by simp; omega)
  have r1 : (rotA d s m e).toList = P ++ (A1 ++ (B1 ++ (A2 ++ (B2 ++ Q)))) := by rw [r0]; simp
  have r2 := mrgA_list lt r1 (a := a) (m := s) (b := mid) ha (by omega) (by omega)
  have r3 : (mrgA lt (rotA d s m e) a s mid).toList = (P ++ mrg lt A1 B1) ++ (A2 ++ (B2 ++ Q)) := by rw [r2]; simp
  have r4 := mrgA_list lt r3 (a := mid) (m := e) (b := b) (by simp [mrg_length]; omega) (by simp [mrg_length]; omega) (by simp [mrg_length]; omega)
  refine ⟨?_, fun hA hB => ?_⟩
  · apply arr_eq
    rw [r4, mrgA_list lt hd ha (by simp; omega) (by simp; omega), mrg_split h A1 B1 A2 B2 q1 q2]
    simp
  · have c1 := cuts r1 (a := a) (m := s) (b := mid) ha (by omega) (by omega)
    have c2 := cuts r3 (a := mid) (m := e) (b := b) (by simp [mrg_length]; omega) (by simp [mrg_length]; omega) (by simp [mrg_length]; omega)
    have hA' := List.pairwise_append.1 hA
    have hB' := List.pairwise_append.1 hB
    exact ⟨by rw [show seg (rotA d s m e) a s = A1 from c1.2.1]; exact hA'.1, by rw [show seg (rotA d s m e) s mid = B1 from c1.2.2.1]; exact hB'.1,
      by rw [show seg (mrgA lt (rotA d s m e) a s mid) mid e = A2 from c2.2.1]; exact hA'.2.1, by rw [show seg (mrgA lt (rotA d s m e) a s mid) e b = B2 from c2.2.2.1]; exact hB'.2.1⟩
end
end Go.Ev
end

section
/- sort.swapRange_func at elements of k cells. -/
set_option linter.unusedSimpArgs false
set_option linter.unusedVariables false
namespace Go.Proofs
open Go.Shelf Go.RowKit Go.Lib Go.Sort Go.Ev
variable {P : Program} {ρ : Ren} {α : Type} [Inhabited α]
set_option maxHeartbeats 2000000 in
set_option maxRecDepth 100000 in
theorem Sb.swapRange (L : LaysGt.n49 P ρ) (enc : α → List Value) (k : Nat) (hk : ∀ x, (enc x).length = k) (g : Nat) (lb : Array Value) (sf : Nat) (sb : Array Value) (blk off a b n : Nat) (d : Array α) (w : World)
    (hswap : SwapSwapsK P sf sb enc k blk off d.size) (hH : HoldsK enc k w blk off d) (hblk : blk < w.heap.size) (ha : a + n ≤ d.size) (hb : b + n ≤ d.size) (hsz : d.size < 4611686018427387904) :
    Calls P (ρ.f 49) #[.agg (dat g lb sf sb), .int .i64 a, .int .i64 b, .int .i64 n] w fun e w' => e = .returned (.tuple #[]) ∧ SWB enc k w blk off (swr a b n 0 d) w' := by
  have mixed := L.mixed; have t0 := L.t0; have a0 := L.a0; have z0 := L.z0; have v0 := L.v0; have t3 := L.t3; have a3 := L.a3; have z3 := L.z3; have v3 := L.v3; have t4 := L.t4; have a4 := L.a4; have z4 := L.z4; have v4 := L.v4; have t26 := L.t26; have a26 := L.a26; have z26 := L.z26; have v26 := L.v26; have t38 := L.t38; have a38 := L.a38; have z38 := L.z38; have v38 := L.v38; have t42 := L.t42; have a42 := L.a42; have z42 := L.z42; have v42 := L.v42
  have u42 := run_underlying L.t42
  have hW1 : SWB enc k w blk off d (w.alloc (.cells (dat g lb sf sb) (ρ.t 42))) := (SWB.start hH).alloc _
  have hH1 : HoldsK enc k (w.alloc (.cells (dat g lb sf sb) (ρ.t 42))) blk off d := hW1.holds hblk hH rfl
  have hblk1 : blk < (w.alloc (.cells (dat g lb sf sb) (ρ.t 42))).heap.size := hW1.lt hblk
  go_enter L.f49, BodyGt.n49_ntmps ρ
  go_wp2
  go_loopw [8] (fun vi wr => ∃ (i : Nat) (dk : Array α), vi = .int .i64 i ∧ i ≤ n ∧ dk.size = d.size ∧ SWB enc k (w.alloc (.cells (dat g lb sf sb) (ρ.t 42))) blk off dk wr ∧ swr a b (n - i) i dk = swr a b n 0 d) (fun vi _ => n - (intOf vi).toNat)
  case atStart => exact ⟨0, d, rfl, Nat.zero_le _, rfl, SWB.start hH1, rfl⟩
  case round =>
    obtain ⟨i, dk, rfl, hin, hsk, hS, hO⟩ := hrel
    have c0 := swb_data hblk hS 0 (.func (.func g) #[] lb) (by simp)
    have c1 := swb_data hblk hS 1 (.func (.func sf) #[] sb) (by simp)
    have hHw : HoldsK enc k wr blk off dk := hS.holds hblk1 hH1 hsk
    have HS : Aside _ := hS
    have HO : Aside _ := hO
    have HW1 : Aside _ := hW1
    clear hS hO hH hH1 hW1
    by_cases hi : i < n
    · have hs := hswap wr dk hHw hsk (a + i) (b + i) (by omega) (by omega)
      rw [show ((a + i : Nat) : Int) = (a : Int) + i by omega, show ((b + i : Nat) : Int) = (b : Int) + i by omega] at hs
      have hz : (i : Int) < n := by omega
      go_wp2
      exact ⟨⟨i + 1, swp dk (a + i) (b + i), by go_num, by omega, by rw [swp_size]; exact hsk, SWB.swap HS.out hk hblk1 (a + i) (b + i) (by omega) (by omega), by rw [← HO.out, show n - i = (n - (i + 1)) + 1 by omega, swr]⟩, by simp [intOf]; omega⟩
    · have hz : ¬ (i : Int) < n := by omega
      go_wp2
      go_end0
      refine ⟨rfl, ?_⟩
      have hO := HO.out
      rw [show n - i = 0 by omega, swr] at hO
      rw [← hO]
      exact swb_down hblk HW1.out HS.out hsk
end Go.Proofs
end

section
/- sort.rotate_func at elements of k cells. -/
set_option linter.unusedSimpArgs false
set_option linter.unusedVariables false
namespace Go.Proofs
open Go.Shelf Go.RowKit Go.Lib Go.Sort Go.Ev
variable {P : Program} {ρ : Ren} {α : Type} [Inhabited α]
set_option maxHeartbeats 4000000 in
set_option maxRecDepth 100000 in
theorem Sb.rotate (L : LaysGt.n42 P ρ) (enc : α → List Value) (k : Nat) (hk : ∀ x, (enc x).length = k) (g : Nat) (lb : Array Value) (sf : Nat) (sb : Array Value) (blk off a m b : Nat) (d : Array α) (w : World)
    (hswap : SwapSwapsK P sf sb enc k blk off d.size) (hH : HoldsK enc k w blk off d) (hblk : blk < w.heap.size) (ha : a < m) (hm : m < b) (hb : b ≤ d.size) (hsz : d.size < 4611686018427387904) :
    Calls P (ρ.f 42) #[.agg (dat g lb sf sb), .int .i64 a, .int .i64 m, .int .i64 b] w fun e w' => e = .returned (.tuple #[]) ∧ SWB enc k w blk off (rotA d a m b) w' := by
  have mixed := L.mixed; have t0 := L.t0; have a0 := L.a0; have z0 := L.z0; have v0 := L.v0; have t3 := L.t3; have a3 := L.a3; have z3 := L.z3; have v3 := L.v3; have t4 := L.t4; have a4 := L.a4; have z4 := L.z4; have v4 := L.v4; have t26 := L.t26; have a26 := L.a26; have z26 := L.z26; have v26 := L.v26; have t38 := L.t38; have a38 := L.a38; have z38 := L.z38; have v38 := L.v38; have t42 := L.t42; have a42 := L.a42; have z42 := L.z42; have v42 := L.v42
  have u42 := run_underlying L.t42
  have e49 : ∀ args w, (callFunc (ρ.f 49) args).run P w = .ok (.enter (ρ.f 49) args) w := enters_of L.f49 (by kernel_rfl) rfl
  have LS : LaysGt.n49 P ρ := { L with }
  have hW1 : SWB enc k w blk off d (w.alloc (.cells (dat g lb sf sb) (ρ.t 42))) := (SWB.start hH).alloc _
  have hH1 : HoldsK enc k (w.alloc (.cells (dat g lb sf sb) (ρ.t 42))) blk off d := hW1.holds hblk hH rfl
  have hblk1 : blk < (w.alloc (.cells (dat g lb sf sb) (ρ.t 42))).heap.size := hW1.lt hblk
  go_enter L.f42, BodyGt.n42_ntmps ρ
  go_wp2
  go_loopw [8, 9] (fun vi vj wr => ∃ (i j : Nat) (dk : Array α), vi = .int .i64 i ∧ vj = .int .i64 j ∧ 0 < i ∧ 0 < j ∧ i ≤ m ∧ m + j ≤ d.size ∧ dk.size = d.size ∧ SWB enc k (w.alloc (.cells (dat g lb sf sb) (ρ.t 42))) blk off dk wr ∧ rotA dk (m - i) m (m + j) = rotA d a m b) (fun vi vj _ => (intOf vi).toNat + (intOf vj).toNat)
  case atStart => exact ⟨m - a, b - m, d, by go_num, by go_num, by omega, by omega, by omega, by omega, rfl, SWB.start hH1, by rw [show m - (m - a) = a by omega, show m + (b - m) = b by omega]⟩
  case round =>
    obtain ⟨i, j, dk, rfl, rfl, hi0, hj0, him, hjb, hsk, hS, hO⟩ := hrel
    have c0 := swb_data hblk hS 0 (.func (.func g) #[] lb) (by simp)
    have c1 := swb_data hblk hS 1 (.func (.func sf) #[] sb) (by simp)
    have hHw : HoldsK enc k wr blk off dk := hS.holds hblk1 hH1 hsk
    have hbw : blk < wr.heap.size := hS.lt hblk1
    have hcall := fun (x y n : Nat) (h1 : x + n ≤ d.size) (h2 : y + n ≤ d.size) => Sb.swapRange LS enc k hk g lb sf sb blk off x y n dk wr (by rw [hsk]; exact hswap) hHw hbw (by omega) (by omega) (by omega)
    have HS : Aside _ := hS
    have HO : Aside _ := hO
    have HW1 : Aside _ := hW1
    have HC : Aside _ := hcall
    clear hS hO hH hH1 hW1 hcall hHw hswap
    by_cases hij : i = j
    · subst hij
      have hz : ¬ ((i : Int) ≠ i) := by omega
      have hc := HC.out (m - i) m i (by omega) (by omega)
      rw [show ((m - i : Nat) : Int) = (m : Int) - i by omega] at hc
      go_wp2_with (go_at_fn (ρ.f 49); refine hc.mono ?_; rintro e w1 ⟨rfl, hS1⟩)
      go_end0
      refine ⟨rfl, ?_⟩
      rw [← HO.out, ← rot_end him (by omega)]
      exact swb_down hblk HW1.out (swb_down hblk1 HS.out hS1 (by rw [swr_size])) (by rw [swr_size]; exact hsk)
    · have hz : ((i : Int) ≠ j) := by omega
      by_cases hgt : j < i
      · have hz2 : ((i : Int) > j) := by omega
        have hc := HC.out (m - i) m j (by omega) (by omega)
        rw [show ((m - i : Nat) : Int) = (m : Int) - i by omega] at hc
        go_wp2_with (go_at_fn (ρ.f 49); refine hc.mono ?_; rintro e w1 ⟨rfl, hS1⟩)
        go_roundw
        case rel => exact ⟨i - j, j, swr (m - i) m j 0 dk, by go_num, rfl, by omega, hj0, by omega, hjb, by rw [swr_size]; exact hsk, swb_down hblk1 HS.out hS1 (by rw [swr_size]), by rw [← HO.out, rot_more hgt him (by omega)]⟩
        case measure => simp [intOf]; omega
      · have hz2 : ¬ ((i : Int) > j) := by omega
        have hc := HC.out (m - i) (m + j - i) i (by omega) (by omega)
        rw [show ((m - i : Nat) : Int) = (m : Int) - i by omega, show ((m + j - i : Nat) : Int) = (m : Int) + j - i by omega] at hc
        go_wp2_with (go_at_fn (ρ.f 49); refine hc.mono ?_; rintro e w1 ⟨rfl, hS1⟩)
        go_roundw
        case rel => exact ⟨i, j - i, swr (m - i) (m + j - i) i 0 dk, rfl, by go_num, hi0, by omega, him, by omega, by rw [swr_size]; exact hsk, swb_down hblk1 HS.out hS1 (by rw [swr_size]), by rw [← HO.out, rot_less (by omega) him (by omega)]⟩
        case measure => simp [intOf]; omega
end Go.Proofs
end

section
/- sort.symMerge_func at elements of k cells: one element ahead of a sorted range, one behind. -/
set_option linter.unusedSimpArgs false
set_option linter.unusedVariables false
namespace Go.Proofs
open Go.Shelf Go.RowKit Go.Lib Go.Sort Go.Ev
variable {P : Program} {ρ : Ren} {α : Type} [Inhabited α]
set_option maxHeartbeats 4000000 in
set_option maxRecDepth 100000 in
theorem Sb.symMerge_one (L : LaysGt.n30 P ρ) (enc : α → List Value) (k : Nat) (hk : ∀ x, (enc x).length = k) (lt : α → α → Bool) (hlt : Weak lt) (g : Nat) (lb : Array Value) (sf : Nat) (sb : Array Value) (blk off a m b : Nat) (hm : m = a + 1) (d : Array α) (w : World)
    (eg : ∀ args w, (callFunc g args).run P w = .ok (.enter g args) w) (hless : LessB P g lb enc k lt blk off d.size w) (hswap : SwapSwapsK P sf sb enc k blk off d.size)
    (hH : HoldsK enc k w blk off d) (hblk : blk < w.heap.size) (hab : m < b) (hb : b ≤ d.size) (hsz : d.size < 4611686018427387904) (hs2 : Srt lt (seg d m b)) :
    Calls P (ρ.f 30) #[.agg (dat g lb sf sb), .int .i64 a, .int .i64 m, .int .i64 b] w fun e w' => e = .returned (.tuple #[]) ∧ SWB enc k w blk off (mrgA lt d a m b) w' := by
  have mixed := L.mixed; have t0 := L.t0; have a0 := L.a0; have z0 := L.z0; have v0 := L.v0; have t3 := L.t3; have a3 := L.a3; have z3 := L.z3; have v3 := L.v3; have t4 := L.t4; have a4 := L.a4; have z4 := L.z4; have v4 := L.v4; have t26 := L.t26; have a26 := L.a26; have z26 := L.z26; have v26 := L.v26; have t38 := L.t38; have a38 := L.a38; have z38 := L.z38; have v38 := L.v38; have t42 := L.t42; have a42 := L.a42; have z42 := L.z42; have v42 := L.v42; have t47 := L.t47; have a47 := L.a47; have z47 := L.z47; have v47 := L.v47
  have u42 := run_underlying L.t42
  have hW1 : SWB enc k w blk off d (w.alloc (.cells (dat g lb sf sb) (ρ.t 42))) := (SWB.start hH).alloc _
  have hH1 : HoldsK enc k (w.alloc (.cells (dat g lb sf sb) (ρ.t 42))) blk off d := hW1.holds hblk hH rfl
  have hblk1 : blk < (w.alloc (.cells (dat g lb sf sb) (ρ.t 42))).heap.size := hW1.lt hblk
  have hL1 : LessB P g lb enc k lt blk off d.size (w.alloc (.cells (dat g lb sf sb) (ρ.t 42))) := hW1.lessReads hless hblk rfl
  have hsrt := (seg_srt (lt := lt) hb).1 hs2
  have hz0 : (m : Int) - (a : Int) = 1 := by omega
  have HM : Aside _ := hm
  have ham : a < m := by omega
  have ham1 : a ≤ m - 1 := by omega
  clear hm
  go_enter L.f30, BodyGt.n30_ntmps ρ
  go_wp2
  go_loopw [8, 9] (fun vi vj wr => ∃ (i j : Nat), vi = .int .i64 i ∧ vj = .int .i64 j ∧ m ≤ i ∧ i ≤ j ∧ j ≤ b ∧ SWB enc k (w.alloc (.cells (dat g lb sf sb) (ρ.t 42))) blk off d wr ∧ (∀ q, m ≤ q → q < i → lt d[q]! d[a]! = true) ∧ (∀ q, j ≤ q → q < b → lt d[q]! d[a]! = false)) (fun vi vj _ => (intOf vj).toNat - (intOf vi).toNat)
  case atStart => exact ⟨m, b, rfl, rfl, by omega, by omega, by omega, SWB.start hH1, fun q h1 h2 => by omega, fun q h1 h2 => by omega⟩
  case round =>
    obtain ⟨i, j, rfl, rfl, hi0, hij, hjb, hS, hl, hr⟩ := hrel
    have c0 := swb_data hblk hS 0 (.func (.func g) #[] lb) (by simp)
    have c1 := swb_data hblk hS 1 (.func (.func sf) #[] sb) (by simp)
    have HS : Aside _ := hS
    have HL : Aside _ := hl
    have HR : Aside _ := hr
    have HT : Aside _ := hsrt
    have HW1 : Aside _ := hW1
    have HH1 : Aside _ := hH1
    have HSW : Aside _ := hswap
    have hls := fun (x y : Nat) (h1 : x < d.size) (h2 : y < d.size) => hS.less hL1 rfl x y h1 h2
    have HLS : Aside _ := hls
    clear hS hl hr hsrt hs2 hH hH1 hW1 hless hL1 hswap hls
    by_cases hz : i < j
    · have hz' : (i : Int) < j := by omega
      have hl1 := HLS.out ((i + j) / 2) a (by omega) (by omega)
      rw [show (((i + j) / 2 : Nat) : Int) = ((i : Int) + j) / 2 by omega] at hl1
      cases hv : lt d[(i + j) / 2]! d[a]! with
      | true =>
        rw [hv] at hl1
        go_wp2_with (go_at_fn g; refine hl1.mono ?_; rintro e w' ⟨rfl, hB⟩)
        go_roundw
        case rel => exact ⟨(i + j) / 2 + 1, j, by go_num, rfl, by omega, by omega, hjb, SWB.below HS.out hB, fun p h1 h2 => (Nat.lt_or_ge p ((i + j) / 2)).elim (fun h => hlt.right (HT.out p ((i + j) / 2) h1 h (by omega)) hv) (fun h => by rw [show p = (i + j) / 2 by omega]; exact hv), HR.out⟩
        case measure => simp [intOf]; omega
      | false =>
        rw [hv] at hl1
        go_wp2_with (go_at_fn g; refine hl1.mono ?_; rintro e w' ⟨rfl, hB⟩)
        go_roundw
        case rel => exact ⟨i, (i + j) / 2, rfl, by go_num, hi0, by omega, by omega, SWB.below HS.out hB, HL.out, fun p h1 h2 => (Nat.eq_or_lt_of_le h1).elim (fun h => by rw [← h]; exact hv) (fun h => hlt.neg _ _ _ (HT.out ((i + j) / 2) p (by omega) h h2) hv)⟩
        case measure => simp [intOf]; omega
    · obtain rfl : i = j := by omega
      have hz' : ¬ ((i : Int) < i) := by omega
      go_wp2
      go_loopw [11] (fun vi wr => ∃ (p : Nat) (dk : Array α), vi = .int .i64 p ∧ a ≤ p ∧ p ≤ i - 1 ∧ dk.size = d.size ∧ SWB enc k (w.alloc (.cells (dat g lb sf sb) (ρ.t 42))) blk off dk wr ∧ bubU (i - 1 - p) p dk = bubU (i - 1 - a) a d) (fun vi _ => i - (intOf vi).toNat)
      case atStart => exact ⟨a, d, rfl, Nat.le_refl _, by omega, rfl, HS.out, rfl⟩
      case round =>
        obtain ⟨p, dk, rfl, hap, hpi, hsk, hS, hO⟩ := hrel
        have c0 := swb_data hblk hS 0 (.func (.func g) #[] lb) (by simp)
        have c1 := swb_data hblk hS 1 (.func (.func sf) #[] sb) (by simp)
        have hHw := hS.holds hblk1 HH1.out hsk
        have HS2 : Aside _ := hS
        have HO : Aside _ := hO
        have HHw : Aside _ := hHw
        clear hS hO hHw
        by_cases hq : p < i - 1
        · have hq' : (p : Int) < (i : Int) - 1 := by omega
          have hs := HSW.out _ dk HHw.out hsk p (p + 1) (by omega) (by omega)
          rw [show ((p + 1 : Nat) : Int) = (p : Int) + 1 by omega] at hs
          go_wp2
          exact ⟨⟨p + 1, swp dk p (p + 1), by go_num, by omega, by omega, by rw [swp_size]; exact hsk, SWB.swap HS2.out hk hblk1 p (p + 1) (by omega) (by omega), by rw [← HO.out, show i - 1 - p = (i - 1 - (p + 1)) + 1 by omega, bubU]⟩, by simp [intOf]; omega⟩
        · have hq' : ¬ ((p : Int) < (i : Int) - 1) := by omega
          go_wp2
          (try simp only [Exit.inBlock, Exit.then]); refine bodyPost_ret (results_none rfl _ _ _) rfl ?_
          refine ⟨rfl, ?_⟩
          have hO := HO.out
          rw [show i - 1 - p = 0 by omega, bubU] at hO
          have hL := HL.out
          have hm := HM.out
          subst hm
          rw [sym_one hlt hi0 hjb hb hL HR.out] at hO
          rw [← hO]
          exact swb_down hblk HW1.out HS2.out hsk
end Go.Proofs
end

section
/- sort.symMerge_func at elements of k cells: one element behind a sorted range. -/
set_option linter.unusedSimpArgs false
set_option linter.unusedVariables false
namespace Go.Proofs
open Go.Shelf Go.RowKit Go.Lib Go.Sort Go.Ev
variable {P : Program} {ρ : Ren} {α : Type} [Inhabited α]
set_option maxHeartbeats 4000000 in
set_option maxRecDepth 100000 in
theorem Sb.symMerge_last (L : LaysGt.n30 P ρ) (enc : α → List Value) (k : Nat) (hk : ∀ x, (enc x).length = k) (lt : α → α → Bool) (hlt : Weak lt) (g : Nat) (lb : Array Value) (sf : Nat) (sb : Array Value) (blk off a m b : Nat) (hm : b = m + 1) (d : Array α) (w : World)
    (eg : ∀ args w, (callFunc g args).run P w = .ok (.enter g args) w) (hless : LessB P g lb enc k lt blk off d.size w) (hswap : SwapSwapsK P sf sb enc k blk off d.size)
    (hH : HoldsK enc k w blk off d) (hblk : blk < w.heap.size) (hab : a < m) (hne : ¬ m - a = 1) (hb : b ≤ d.size) (hsz : d.size < 4611686018427387904) (hs2 : Srt lt (seg d a m)) :
    Calls P (ρ.f 30) #[.agg (dat g lb sf sb), .int .i64 a, .int .i64 m, .int .i64 b] w fun e w' => e = .returned (.tuple #[]) ∧ SWB enc k w blk off (mrgA lt d a m b) w' := by
  have mixed := L.mixed; have t0 := L.t0; have a0 := L.a0; have z0 := L.z0; have v0 := L.v0; have t3 := L.t3; have a3 := L.a3; have z3 := L.z3; have v3 := L.v3; have t4 := L.t4; have a4 := L.a4; have z4 := L.z4; have v4 := L.v4; have t26 := L.t26; have a26 := L.a26; have z26 := L.z26; have v26 := L.v26; have t38 := L.t38; have a38 := L.a38; have z38 := L.z38; have v38 := L.v38; have t42 := L.t42; have a42 := L.a42; have z42 := L.z42; have v42 := L.v42; have t47 := L.t47; have a47 := L.a47; have z47 := L.z47; have v47 := L.v47
  have u42 := run_underlying L.t42
  have hW1 : SWB enc k w blk off d (w.alloc (.cells (dat g lb sf sb) (ρ.t 42))) := (SWB.start hH).alloc _
  have hH1 : HoldsK enc k (w.alloc (.cells (dat g lb sf sb) (ρ.t 42))) blk off d := hW1.holds hblk hH rfl
  have hblk1 : blk < (w.alloc (.cells (dat g lb sf sb) (ρ.t 42))).heap.size := hW1.lt hblk
  have hL1 : LessB P g lb enc k lt blk off d.size (w.alloc (.cells (dat g lb sf sb) (ρ.t 42))) := hW1.lessReads hless hblk rfl
  have hsrt := (seg_srt (lt := lt) (show m ≤ d.size by omega)).1 hs2
  have hz0 : (b : Int) - (m : Int) = 1 := by omega
  have hz1 : ((m : Int) - (a : Int) == 1) = false := by simp; omega
  have HM : Aside _ := hm
  have hmb : m < b := by omega
  clear hm
  go_enter L.f30, BodyGt.n30_ntmps ρ
  go_wp2
  go_loopw [12, 13] (fun vi vj wr => ∃ (i j : Nat), vi = .int .i64 i ∧ vj = .int .i64 j ∧ a ≤ i ∧ i ≤ j ∧ j ≤ m ∧ SWB enc k (w.alloc (.cells (dat g lb sf sb) (ρ.t 42))) blk off d wr ∧ (∀ q, a ≤ q → q < i → lt d[m]! d[q]! = false) ∧ (∀ q, j ≤ q → q < m → lt d[m]! d[q]! = true)) (fun vi vj _ => (intOf vj).toNat - (intOf vi).toNat)
  case atStart => exact ⟨a, m, rfl, rfl, by omega, by omega, by omega, SWB.start hH1, fun q h1 h2 => by omega, fun q h1 h2 => by omega⟩
  case round =>
    obtain ⟨i, j, rfl, rfl, hi0, hij, hjb, hS, hl, hr⟩ := hrel
    have c0 := swb_data hblk hS 0 (.func (.func g) #[] lb) (by simp)
    have c1 := swb_data hblk hS 1 (.func (.func sf) #[] sb) (by simp)
    have HS : Aside _ := hS
    have HL : Aside _ := hl
    have HR : Aside _ := hr
    have HT : Aside _ := hsrt
    have HW1 : Aside _ := hW1
    have HH1 : Aside _ := hH1
    have HSW : Aside _ := hswap
    have hls := fun (x y : Nat) (h1 : x < d.size) (h2 : y < d.size) => hS.less hL1 rfl x y h1 h2
    have HLS : Aside _ := hls
    clear hS hl hr hsrt hs2 hH hH1 hW1 hless hL1 hswap hls
    by_cases hz : i < j
    · have hz' : (i : Int) < j := by omega
      have hl1 := HLS.out m ((i + j) / 2) (by omega) (by omega)
      rw [show (((i + j) / 2 : Nat) : Int) = ((i : Int) + j) / 2 by omega] at hl1
      cases hv : lt d[m]! d[(i + j) / 2]! with
      | false =>
        rw [hv] at hl1
        go_wp2_with (go_at_fn g; refine hl1.mono ?_; rintro e w' ⟨rfl, hB⟩)
        go_roundw
        case rel => exact ⟨(i + j) / 2 + 1, j, by go_num, rfl, by omega, by omega, hjb, SWB.below HS.out hB, fun p h1 h2 => (Nat.lt_or_ge p ((i + j) / 2)).elim (fun h => hlt.neg _ _ _ hv (HT.out p ((i + j) / 2) h1 h (by omega))) (fun h => by rw [show p = (i + j) / 2 by omega]; exact hv), HR.out⟩
        case measure => simp [intOf]; omega
      | true =>
        rw [hv] at hl1
        go_wp2_with (go_at_fn g; refine hl1.mono ?_; rintro e w' ⟨rfl, hB⟩)
        go_roundw
        case rel => exact ⟨i, (i + j) / 2, rfl, by go_num, hi0, by omega, by omega, SWB.below HS.out hB, HL.out, fun p h1 h2 => (Nat.eq_or_lt_of_le h1).elim (fun h => by rw [← h]; exact hv) (fun h => hlt.left hv (HT.out ((i + j) / 2) p (by omega) h h2))⟩
        case measure => simp [intOf]; omega
    · obtain rfl : i = j := by omega
      have hz' : ¬ ((i : Int) < i) := by omega
      go_wp2
      go_loopw [15] (fun vi wr => ∃ (p : Nat) (dk : Array α), vi = .int .i64 p ∧ i ≤ p ∧ p ≤ m ∧ dk.size = d.size ∧ SWB enc k (w.alloc (.cells (dat g lb sf sb) (ρ.t 42))) blk off dk wr ∧ bubD (p - i) p dk = bubD (m - i) m d) (fun vi _ => (intOf vi).toNat)
      case atStart => exact ⟨m, d, rfl, by omega, Nat.le_refl _, rfl, HS.out, rfl⟩
      case round =>
        obtain ⟨p, dk, rfl, hap, hpi, hsk, hS, hO⟩ := hrel
        have c0 := swb_data hblk hS 0 (.func (.func g) #[] lb) (by simp)
        have c1 := swb_data hblk hS 1 (.func (.func sf) #[] sb) (by simp)
        have hHw := hS.holds hblk1 HH1.out hsk
        have HS2 : Aside _ := hS
        have HO : Aside _ := hO
        have HHw : Aside _ := hHw
        clear hS hO hHw
        by_cases hq : i < p
        · have hq' : (p : Int) > (i : Int) := by omega
          have hs := HSW.out _ dk HHw.out hsk p (p - 1) (by omega) (by omega)
          rw [show ((p - 1 : Nat) : Int) = (p : Int) - 1 by omega] at hs
          go_wp2
          exact ⟨⟨p - 1, swp dk p (p - 1), by go_num, by omega, by omega, by rw [swp_size]; exact hsk, SWB.swap HS2.out hk hblk1 p (p - 1) (by omega) (by omega), by rw [← HO.out, show p - i = (p - 1 - i) + 1 by omega, bubD]⟩, by simp [intOf]; omega⟩
        · have hq' : ¬ ((p : Int) > (i : Int)) := by omega
          go_wp2
          (try simp only [Exit.inBlock, Exit.then]); refine bodyPost_ret (results_none rfl _ _ _) rfl ?_
          refine ⟨rfl, ?_⟩
          have hO := HO.out
          rw [show p - i = 0 by omega, bubD] at hO
          have hm := HM.out
          subst hm
          rw [sym_last hlt hi0 hjb hb HL.out HR.out] at hO
          rw [← hO]
          exact swb_down hblk HW1.out HS2.out hsk
end Go.Proofs
end

section
/- Stable order: the cut that the library's search finds. -/
set_option linter.unusedSimpArgs false
set_option linter.unusedVariables false
set_option linter.unusedSectionVars false
namespace Go.Ev
open Go.Sort (swp)
section
variable {α : Type} [Inhabited α] {lt : α → α → Bool}
theorem sym_range {a m b s0 r0 mid : Nat} (ham : a < m) (hmb : m < b) (hmid : mid = (a + b) / 2) (h0 : (s0 = a ∧ r0 = m ∧ m ≤ mid) ∨ (s0 + b = mid + m ∧ r0 = mid ∧ mid < m)) :
    a ≤ s0 ∧ s0 ≤ r0 ∧ r0 ≤ m ∧ r0 ≤ mid ∧ ∀ q, s0 ≤ q → q < r0 → a ≤ q ∧ q < m ∧ m ≤ mid + m - 1 - q ∧ mid + m - 1 - q < b := by
  rcases h0 with ⟨rfl, rfl, h⟩ | ⟨h1, rfl, h⟩
  · exact ⟨by omega, by omega, by omega, by omega, fun q h1 h2 => ⟨by omega, by omega, by omega, by omega⟩⟩
  · exact ⟨by omega, by omega, by omega, by omega, fun q h2 h3 => ⟨by omega, by omega, by omega, by omega⟩⟩
theorem sym_low (h : Weak lt) {d : Array α} {a m b x y c q : Nat} (hT1 : ∀ i j, a ≤ i → i < j → j < m → lt d[j]! d[i]! = false) (hT2 : ∀ i j, m ≤ i → i < j → j < b → lt d[j]! d[i]! = false)
    (hq : a ≤ q) (hqc : q ≤ c) (hc : c < m) (hx : m ≤ x) (hxy : x ≤ y) (hy : y < b) (hv : lt d[x]! d[c]! = false) : lt d[y]! d[q]! = false := by
  have e1 : lt d[y]! d[c]! = false := by
    rcases Nat.eq_or_lt_of_le hxy with e | e
    · rw [← e]; exact hv
    · exact h.neg _ _ _ (hT2 x y hx e hy) hv
  rcases Nat.eq_or_lt_of_le hqc with e | e
  · rw [e]; exact e1
  · exact h.neg _ _ _ e1 (hT1 q c hq e hc)
theorem sym_high (h : Weak lt) {d : Array α} {a m b x y c q : Nat} (hT1 : ∀ i j, a ≤ i → i < j → j < m → lt d[j]! d[i]! = false) (hT2 : ∀ i j, m ≤ i → i < j → j < b → lt d[j]! d[i]! = false)
    (hc : a ≤ c) (hqc : c ≤ q) (hq : q < m) (hy : m ≤ y) (hxy : y ≤ x) (hx : x < b) (hv : lt d[x]! d[c]! = true) : lt d[y]! d[q]! = true := by
  have e1 : lt d[y]! d[c]! = true := by
    rcases Nat.eq_or_lt_of_le hxy with e | e
    · rw [e]; exact hv
    · exact h.right (hT2 y x hy e hx) hv
  rcases Nat.eq_or_lt_of_le hqc with e | e
  · rw [← e]; exact e1
  · exact h.left e1 (hT1 c q hc e hq)
theorem sym_cut (h : Weak lt) {d : Array α} {a m b s0 r0 s mid : Nat} (ham : a < m) (hmb : m < b) (hmid : mid = (a + b) / 2) (h0 : (s0 = a ∧ r0 = m ∧ m ≤ mid) ∨ (s0 + b = mid + m ∧ r0 = mid ∧ mid < m))
    (hT1 : ∀ i j, a ≤ i → i < j → j < m → lt d[j]! d[i]! = false) (hT2 : ∀ i j, m ≤ i → i < j → j < b → lt d[j]! d[i]! = false) (h1 : s0 ≤ s) (h2 : s ≤ r0)
    (hl : ∀ q, s0 ≤ q → q < s → lt d[mid + m - 1 - q]! d[q]! = false) (hr : ∀ q, s ≤ q → q < r0 → lt d[mid + m - 1 - q]! d[q]! = true) :
    (a ≤ s ∧ s ≤ m ∧ m ≤ mid + m - s ∧ mid + m - s ≤ b ∧ s ≤ mid) ∧ (∀ i j, a ≤ i → i < s → mid + m - s ≤ j → j < b → lt d[j]! d[i]! = false) ∧ ∀ i j, s ≤ i → i < m → m ≤ j → j < mid + m - s → lt d[j]! d[i]! = true := by
  obtain ⟨r1, r2, r3, r4, r5⟩ := sym_range ham hmb hmid h0
  refine ⟨⟨by omega, by omega, by omega, by omega, by omega⟩, fun i j g1 g2 g3 g4 => ?_, fun i j g1 g2 g3 g4 => ?_⟩
  · by_cases hs : s = s0
    · exfalso; omega
    · have hv := hl (s - 1) (by omega) (by omega)
      obtain ⟨b1, b2, b3, b4⟩ := r5 (s - 1) (by omega) (by omega)
      exact sym_low h hT1 hT2 g1 (by omega) b2 b3 (by omega) g4 hv
  · by_cases hs : s = r0
    · exfalso; omega
    · have hv := hr s (by omega) (by omega)
      obtain ⟨b1, b2, b3, b4⟩ := r5 s (by omega) (by omega)
      exact sym_high h hT1 hT2 b1 g1 g2 g3 (by omega) b4 hv
theorem rotA_id {d : Array α} {s m e : Nat} (h1 : s ≤ m) (h2 : m ≤ e) (h3 : e ≤ d.size) (h : ¬ (s < m ∧ m < e)) : rotA d s m e = d := by
  obtain ⟨P, X, Y, Q, hd, ha, hm, hb⟩ := cut4 d.toList h1 h2 (by simpa using h3)
  apply arr_eq
  rw [rotA_list hd ha hm hb, hd]
  by_cases hx : X = []
  · subst hx; simp
  · have : Y = [] := by
      have := List.length_pos_iff.2 hx
      exact List.eq_nil_of_length_eq_zero (by omega)
    subst this; simp
theorem mrgA_id {d : Array α} {a m b : Nat} (h1 : a ≤ m) (h2 : m ≤ b) (h3 : b ≤ d.size) (h : ¬ (a < m ∧ m < b)) : mrgA lt d a m b = d := by
  obtain ⟨P, X, Y, Q, hd, ha, hm, hb⟩ := cut4 d.toList h1 h2 (by simpa using h3)
  apply arr_eq
  rw [mrgA_list lt hd ha hm hb, hd]
  by_cases hx : X = []
  · subst hx; simp [nil_mrg]
  · have : Y = [] := by
      have := List.length_pos_iff.2 hx
      exact List.eq_nil_of_length_eq_zero (by omega)
    subst this; simp [mrg_nil]
end
end Go.Ev
end

section
/- sort.symMerge_func at elements of k cells: the halves. -/
set_option linter.unusedSimpArgs false
set_option linter.unusedVariables false
namespace Go.Proofs
open Go.Shelf Go.RowKit Go.Lib Go.Sort Go.Ev
variable {P : Program} {ρ : Ren} {α : Type} [Inhabited α]
set_option maxHeartbeats 40000000 in
set_option maxRecDepth 100000 in
theorem Sb.symMerge_many (L : LaysGt.n30 P ρ) (enc : α → List Value) (k : Nat) (hk : ∀ x, (enc x).length = k) (lt : α → α → Bool) (hlt : Weak lt) (g : Nat) (lb : Array Value) (sf : Nat) (sb : Array Value) (blk off a m b : Nat) (ham : a < m) (d : Array α) (w : World)
    (eg : ∀ args w, (callFunc g args).run P w = .ok (.enter g args) w) (hless : LessB P g lb enc k lt blk off d.size w) (hswap : SwapSwapsK P sf sb enc k blk off d.size)
    (hH : HoldsK enc k w blk off d) (hblk : blk < w.heap.size) (hmb : m < b) (hn1 : ¬ m - a = 1) (hn2 : ¬ b - m = 1) (hb : b ≤ d.size) (hsz : d.size < 4611686018427387904) (hs1 : Srt lt (seg d a m)) (hs2 : Srt lt (seg d m b))
    (IH : ∀ (a' m' b' : Nat) (d' : Array α) (w' : World), b' - a' < b - a → a' < m' → m' < b' → b' ≤ d'.size → d'.size = d.size → LessB P g lb enc k lt blk off d.size w' → HoldsK enc k w' blk off d' → blk < w'.heap.size → Srt lt (seg d' a' m') → Srt lt (seg d' m' b') →
      Calls P (ρ.f 30) #[.agg (dat g lb sf sb), .int .i64 a', .int .i64 m', .int .i64 b'] w' fun e w'' => e = .returned (.tuple #[]) ∧ SWB enc k w' blk off (mrgA lt d' a' m' b') w'') :
    Calls P (ρ.f 30) #[.agg (dat g lb sf sb), .int .i64 a, .int .i64 m, .int .i64 b] w fun e w' => e = .returned (.tuple #[]) ∧ SWB enc k w blk off (mrgA lt d a m b) w' := by
  have mixed := L.mixed; have t0 := L.t0; have a0 := L.a0; have z0 := L.z0; have v0 := L.v0; have t3 := L.t3; have a3 := L.a3; have z3 := L.z3; have v3 := L.v3; have t4 := L.t4; have a4 := L.a4; have z4 := L.z4; have v4 := L.v4; have t26 := L.t26; have a26 := L.a26; have z26 := L.z26; have v26 := L.v26; have t38 := L.t38; have a38 := L.a38; have z38 := L.z38; have v38 := L.v38; have t42 := L.t42; have a42 := L.a42; have z42 := L.z42; have v42 := L.v42; have t47 := L.t47; have a47 := L.a47; have z47 := L.z47; have v47 := L.v47
  have u42 := run_underlying L.t42
  have hW1 : SWB enc k w blk off d (w.alloc (.cells (dat g lb sf sb) (ρ.t 42))) := (SWB.start hH).alloc _
  have hH1 : HoldsK enc k (w.alloc (.cells (dat g lb sf sb) (ρ.t 42))) blk off d := hW1.holds hblk hH rfl
  have hblk1 : blk < (w.alloc (.cells (dat g lb sf sb) (ρ.t 42))).heap.size := hW1.lt hblk
  have hL1 : LessB P g lb enc k lt blk off d.size (w.alloc (.cells (dat g lb sf sb) (ρ.t 42))) := hW1.lessReads hless hblk rfl
  have hT1 := (seg_srt (lt := lt) (show m ≤ d.size by omega)).1 hs1
  have hT2 := (seg_srt (lt := lt) hb).1 hs2
  have e30 : ∀ args w, (callFunc (ρ.f 30) args).run P w = .ok (.enter (ρ.f 30) args) w := enters_of L.f30 (by kernel_rfl) rfl
  have e42 : ∀ args w, (callFunc (ρ.f 42) args).run P w = .ok (.enter (ρ.f 42) args) w := enters_of L.f42 (by kernel_rfl) rfl
  have LR : LaysGt.n42 P ρ := { L with }
  have hz0 : ((m : Int) - (a : Int) == 1) = false := by simp; omega
  have hz1 : ((b : Int) - (m : Int) == 1) = false := by simp; omega
  obtain ⟨mid, hmid⟩ : ∃ mid, mid = (a + b) / 2 := ⟨_, rfl⟩
  have HMZ : Aside (((a : Int) + b) / 2 = (mid : Int)) := (show ((a : Int) + b) / 2 = (mid : Int) by omega)
  have HMID : Aside _ := hmid
  have HT1 : Aside _ := hT1
  have HT2 : Aside _ := hT2
  have HW1 : Aside _ := hW1
  have HH1 : Aside _ := hH1
  have HL1 : Aside _ := hL1
  have HSWP : Aside _ := hswap
  have HS1 : Aside _ := hs1
  have HS2 : Aside _ := hs2
  have IHH : Aside _ := IH
  clear hT1 hT2 hW1 hH1 hL1 hswap hs1 hs2 IH hless hH
  by_cases hgt : mid < m
  · have hgz : (m : Int) > ((a : Int) + b) / 2 := by omega
    obtain ⟨s0, hs0⟩ : ∃ s0, s0 + b = mid + m := ⟨mid + m - b, by omega⟩
    obtain ⟨r0, hr0⟩ : ∃ r0, r0 = mid := ⟨_, rfl⟩
    have h0 : (s0 = a ∧ r0 = m ∧ m ≤ mid) ∨ (s0 + b = mid + m ∧ r0 = mid ∧ mid < m) := .inr ⟨hs0, hr0, hgt⟩
    have H0 : Aside _ := h0
    have HRG : Aside _ := sym_range ham hmb hmid h0
    clear h0 hs0 hr0 hmid hgt
    go_enter L.f30, BodyGt.n30_ntmps ρ
    go_wp2
    go_loopw [18, 19] (fun vi vj wr => ∃ (i j : Nat), vi = .int .i64 i ∧ vj = .int .i64 j ∧ s0 ≤ i ∧ i ≤ j ∧ j ≤ r0 ∧ SWB enc k (w.alloc (.cells (dat g lb sf sb) (ρ.t 42))) blk off d wr ∧ (∀ q, s0 ≤ q → q < i → lt d[mid + m - 1 - q]! d[q]! = false) ∧ (∀ q, j ≤ q → q < r0 → lt d[mid + m - 1 - q]! d[q]! = true)) (fun vi vj _ => (intOf vj).toNat - (intOf vi).toNat)
    case atStart => exact ⟨s0, r0, by have h1 := HMID.out; have h2 := H0.out; congr 1; omega, by have h1 := HMID.out; have h2 := H0.out; congr 1; omega, Nat.le_refl _, HRG.out.2.1, Nat.le_refl _, SWB.start HH1.out, fun q h1 h2 => by omega, fun q h1 h2 => by omega⟩
    case round =>
      obtain ⟨i, j, rfl, rfl, hi0, hij, hjb, hS, hl, hr⟩ := hrel
      have c0 := swb_data hblk hS 0 (.func (.func g) #[] lb) (by simp)
      have c1 := swb_data hblk hS 1 (.func (.func sf) #[] sb) (by simp)
      have HS : Aside _ := hS
      have HL : Aside _ := hl
      have HR : Aside _ := hr
      have hls := fun (x y : Nat) (h1 : x < d.size) (h2 : y < d.size) => hS.less HL1.out rfl x y h1 h2
      have HLS : Aside _ := hls
      clear hS hl hr hls
      have hjm : j ≤ m := Nat.le_trans hjb HRG.out.2.2.1
      by_cases hz : i < j
      · have hz' : (i : Int) < j := by omega
        obtain ⟨p1, p2, p3, p4⟩ := HRG.out.2.2.2.2 ((i + j) / 2) (by omega) (by omega)
        have hl1 := HLS.out (mid + m - 1 - (i + j) / 2) ((i + j) / 2) (by omega) (by omega)
        rw [show ((mid + m - 1 - (i + j) / 2 : Nat) : Int) = ((a : Int) + b) / 2 + m - 1 - ((i : Int) + j) / 2 by have := HMID.out; omega, show (((i + j) / 2 : Nat) : Int) = ((i : Int) + j) / 2 by omega] at hl1
        have P1 : Aside _ := p1
        have P2 : Aside _ := p2
        have P3 : Aside _ := p3
        have P4 : Aside _ := p4
        clear p1 p2 p3 p4
        cases hv : lt d[mid + m - 1 - (i + j) / 2]! d[(i + j) / 2]! with
        | false =>
          rw [hv] at hl1
          go_wp2_with (go_at_fn g; refine hl1.mono ?_; rintro e w' ⟨rfl, hB⟩)
          go_roundw
          case rel => exact ⟨(i + j) / 2 + 1, j, by go_num, rfl, by omega, by omega, hjb, SWB.below HS.out hB, fun p h1 h2 => (Nat.lt_or_ge p ((i + j) / 2)).elim (fun h => by
            obtain ⟨g1, g2, g3, g4⟩ := HRG.out.2.2.2.2 p h1 (by omega)
            exact sym_low hlt HT1.out HT2.out g1 (by omega) P2.out P3.out (by omega) g4 hv) (fun h => by rw [show p = (i + j) / 2 by omega]; exact hv), HR.out⟩
          case measure => simp [intOf]; omega
        | true =>
          rw [hv] at hl1
          go_wp2_with (go_at_fn g; refine hl1.mono ?_; rintro e w' ⟨rfl, hB⟩)
          go_roundw
          case rel => exact ⟨i, (i + j) / 2, rfl, by go_num, hi0, by omega, by omega, SWB.below HS.out hB, HL.out, fun p h1 h2 => by
            obtain ⟨g1, g2, g3, g4⟩ := HRG.out.2.2.2.2 p (by omega) h2
            exact sym_high hlt HT1.out HT2.out P1.out h1 g2 g3 (by omega) P4.out hv⟩
          case measure => simp [intOf]; omega
      · obtain rfl : i = j := by omega
        have hz' : ¬ ((i : Int) < i) := by omega
        obtain ⟨⟨v1, v2, v3, v4, v5⟩, cl, cr⟩ := sym_cut hlt ham hmb HMID.out H0.out HT1.out HT2.out hi0 hjb HL.out HR.out
        have CL : Aside _ := cl
        have CR : Aside _ := cr
        clear cl cr
        have hE : ((mid + m - i : Nat) : Int) = ((a : Int) + b) / 2 + m - i := by have := HMID.out; omega
        have hM : ((mid : Nat) : Int) = ((a : Int) + b) / 2 := by have := HMID.out; omega
        have HE : Aside _ := hE
        have HM : Aside _ := hM
        have hHw := SWB.holds HS.out hblk1 HH1.out rfl
        have HHw : Aside _ := hHw
        have halv := sym_halves (lt := lt) (mid := mid) hlt v1 v2 v3 v4 hb (by omega) CL.out CR.out
        have HV : Aside _ := halv
        have HV3 : Aside (m ≤ mid + m - i) := v3
        have HV4 : Aside (mid + m - i ≤ b) := v4
        have HV5 : Aside (i ≤ mid) := v5
        clear hHw halv v3 v4 v5 hE hM
        have sz1 : (rotA d i m (mid + m - i)).size = d.size := rotA_size (by omega) HV3.out (by have := HV4.out; omega)
        have sz2 : (mrgA lt (rotA d i m (mid + m - i)) a i mid).size = d.size := by rw [mrgA_size lt (by omega) HV5.out (by have := HMID.out; omega), sz1]
        have SZ1 : Aside _ := sz1
        have SZ2 : Aside _ := sz2
        clear sz1 sz2
        have calls1 : ∀ W, SWB enc k (w.alloc (.cells (dat g lb sf sb) (ρ.t 42))) blk off (rotA d i m (mid + m - i)) W → a < i → i < mid → Calls P (ρ.f 30) #[.agg (dat g lb sf sb), .int .i64 a, .int .i64 i, .int .i64 (((a : Int) + b) / 2)] W fun e w'' => e = .returned (.tuple #[]) ∧ SWB enc k (w.alloc (.cells (dat g lb sf sb) (ρ.t 42))) blk off (mrgA lt (rotA d i m (mid + m - i)) a i mid) w'' := fun W hW g1 g2 => by
          have := IHH.out a i mid (rotA d i m (mid + m - i)) W (by have := HMID.out; omega) g1 g2 (by rw [SZ1.out]; have := HMID.out; omega) SZ1.out (hW.lessReads HL1.out hblk1 SZ1.out) (hW.holds hblk1 HH1.out SZ1.out) (hW.lt hblk1) (HV.out.2 HS1.out HS2.out).1 (HV.out.2 HS1.out HS2.out).2.1
          rw [HM.out] at this
          exact this.mono fun e w'' h => ⟨h.1, swb_down hblk1 hW h.2 (by rw [SZ2.out, SZ1.out])⟩
        have calls2 : ∀ W, SWB enc k (w.alloc (.cells (dat g lb sf sb) (ρ.t 42))) blk off (mrgA lt (rotA d i m (mid + m - i)) a i mid) W → i < m → mid + m - i < b → Calls P (ρ.f 30) #[.agg (dat g lb sf sb), .int .i64 (((a : Int) + b) / 2), .int .i64 (((a : Int) + b) / 2 + m - i), .int .i64 b] W fun e w'' => e = .returned (.tuple #[]) ∧ SWB enc k (w.alloc (.cells (dat g lb sf sb) (ρ.t 42))) blk off (mrgA lt d a m b) w'' := fun W hW g1 g2 => by
          have := IHH.out mid (mid + m - i) b (mrgA lt (rotA d i m (mid + m - i)) a i mid) W (by have := HMID.out; omega) (by omega) g2 (by rw [SZ2.out]; exact hb) SZ2.out (hW.lessReads HL1.out hblk1 SZ2.out) (hW.holds hblk1 HH1.out SZ2.out) (hW.lt hblk1) (HV.out.2 HS1.out HS2.out).2.2.1 (HV.out.2 HS1.out HS2.out).2.2.2
          rw [HM.out, HE.out, HV.out.1] at this
          exact this.mono fun e w'' h => ⟨h.1, swb_down hblk1 hW h.2 (by rw [mrgA_size lt (by omega) (by omega) hb, SZ2.out])⟩
        have rotc : i < m → m < mid + m - i → Calls P (ρ.f 42) #[.agg (dat g lb sf sb), .int .i64 i, .int .i64 m, .int .i64 (((a : Int) + b) / 2 + m - i)] wr fun e w'' => e = .returned (.tuple #[]) ∧ SWB enc k (w.alloc (.cells (dat g lb sf sb) (ρ.t 42))) blk off (rotA d i m (mid + m - i)) w'' := fun g1 g2 => by
          have := Sb.rotate LR enc k hk g lb sf sb blk off i m (mid + m - i) d wr HSWP.out HHw.out (SWB.lt HS.out hblk1) g1 g2 (by have := HV4.out; omega) hsz
          rw [HE.out] at this
          exact this.mono fun e w'' h => ⟨h.1, swb_down hblk1 HS.out h.2 SZ1.out⟩
        have rot0 : ¬ (i < m ∧ m < mid + m - i) → SWB enc k (w.alloc (.cells (dat g lb sf sb) (ρ.t 42))) blk off (rotA d i m (mid + m - i)) wr := fun g => by
          rw [rotA_id (by omega) HV3.out (by have := HV4.out; omega) g]; exact HS.out
        have sym0 : ∀ W, SWB enc k (w.alloc (.cells (dat g lb sf sb) (ρ.t 42))) blk off (rotA d i m (mid + m - i)) W → ¬ (a < i ∧ i < mid) → SWB enc k (w.alloc (.cells (dat g lb sf sb) (ρ.t 42))) blk off (mrgA lt (rotA d i m (mid + m - i)) a i mid) W := fun W hW g => by
          rw [mrgA_id (by omega) HV5.out (by rw [SZ1.out]; have := HMID.out; omega) g]; exact hW
        have sym9 : ∀ W, SWB enc k (w.alloc (.cells (dat g lb sf sb) (ρ.t 42))) blk off (mrgA lt (rotA d i m (mid + m - i)) a i mid) W → ¬ (mid < mid + m - i ∧ mid + m - i < b) → SWB enc k (w.alloc (.cells (dat g lb sf sb) (ρ.t 42))) blk off (mrgA lt d a m b) W := fun W hW g => by
          have h := HV.out.1
          rw [mrgA_id (d := mrgA lt (rotA d i m (mid + m - i)) a i mid) (by omega) HV4.out (by rw [SZ2.out]; exact hb) g] at h
          rw [← h]; exact hW
        have CALL1 : Aside _ := calls1
        have CALL2 : Aside _ := calls2
        have ROTC : Aside _ := rotc
        have ROT0 : Aside _ := rot0
        have SYM0 : Aside _ := sym0
        have SYM9 : Aside _ := sym9
        clear calls1 calls2 rotc rot0 sym0 sym9
        have hfin : ∀ W, SWB enc k (w.alloc (.cells (dat g lb sf sb) (ρ.t 42))) blk off (mrgA lt d a m b) W → SWB enc k w blk off (mrgA lt d a m b) W := fun W hW => swb_down hblk HW1.out hW (mrgA_size lt (by omega) (by omega) hb)
        have HFIN : Aside _ := hfin
        clear hfin
        by_cases A : i < m
        · have A1 : (i : Int) < m := by omega
          have A2 : ((a : Int) + b) / 2 < ((a : Int) + b) / 2 + m - i := by omega
          by_cases B : i < mid
          · have B1 : (m : Int) < ((a : Int) + b) / 2 + m - i := by have := HM.out; omega
            have B2 : (i : Int) < ((a : Int) + b) / 2 := by have := HM.out; omega
            by_cases C : a < i
            · have C1 : (a : Int) < i := by omega
              by_cases D : mid + m - i < b
              · have D1 : ((a : Int) + b) / 2 + m - i < b := by have := HE.out; omega
                have E1 : Aside (SWB enc k (w.alloc (.cells (dat g lb sf sb) (ρ.t 42))) blk off d wr) := HS.out
                go_wp2_with (first | (go_at_fn (ρ.f 42); refine (ROTC.out (by omega) (by omega)).mono ?_; rintro e w1 ⟨rfl, hS1⟩; have d10 := swb_data hblk hS1 0 (.func (.func g) #[] lb) (by simp); have d11 := swb_data hblk hS1 1 (.func (.func sf) #[] sb) (by simp)) | (go_at_fn_of (ρ.f 30) (Value.int .i64 (a : Int)); refine (CALL1.out _ hS1 (by omega) (by omega)).mono ?_; rintro e w2 ⟨rfl, hS2⟩; have d20 := swb_data hblk hS2 0 (.func (.func g) #[] lb) (by simp); have d21 := swb_data hblk hS2 1 (.func (.func sf) #[] sb) (by simp)) | (go_at_fn_of (ρ.f 30) (Value.int .i64 (b : Int)); refine (CALL2.out _ hS2 (by omega) (by omega)).mono ?_; rintro e w3 ⟨rfl, hS3⟩))
                all_goals (first | (go_end0; exact ⟨rfl, HFIN.out _ hS3⟩) | exact ⟨rfl, HFIN.out _ hS3⟩)
              · have D1 : ¬ (((a : Int) + b) / 2 + m - i < b) := by have := HE.out; omega
                have E1 : Aside (SWB enc k (w.alloc (.cells (dat g lb sf sb) (ρ.t 42))) blk off d wr) := HS.out
                go_wp2_with (first | (go_at_fn (ρ.f 42); refine (ROTC.out (by omega) (by omega)).mono ?_; rintro e w1 ⟨rfl, hS1⟩; have d10 := swb_data hblk hS1 0 (.func (.func g) #[] lb) (by simp); have d11 := swb_data hblk hS1 1 (.func (.func sf) #[] sb) (by simp)) | (go_at_fn_of (ρ.f 30) (Value.int .i64 (a : Int)); refine (CALL1.out _ hS1 (by omega) (by omega)).mono ?_; rintro e w2 ⟨rfl, hS2⟩; have d20 := swb_data hblk hS2 0 (.func (.func g) #[] lb) (by simp); have d21 := swb_data hblk hS2 1 (.func (.func sf) #[] sb) (by simp)))
                all_goals (first | (go_end0; exact ⟨rfl, HFIN.out _ (SYM9.out _ hS2 (by omega))⟩) | exact ⟨rfl, HFIN.out _ (SYM9.out _ hS2 (by omega))⟩)
            · have C1 : ¬ ((a : Int) < i) := by omega
              by_cases D : mid + m - i < b
              · have D1 : ((a : Int) + b) / 2 + m - i < b := by have := HE.out; omega
                have E1 : Aside (SWB enc k (w.alloc (.cells (dat g lb sf sb) (ρ.t 42))) blk off d wr) := HS.out
                go_wp2_with (first | (go_at_fn (ρ.f 42); refine (ROTC.out (by omega) (by omega)).mono ?_; rintro e w1 ⟨rfl, hS1⟩; have d10 := swb_data hblk hS1 0 (.func (.func g) #[] lb) (by simp); have d11 := swb_data hblk hS1 1 (.func (.func sf) #[] sb) (by simp)) | (go_at_fn_of (ρ.f 30) (Value.int .i64 (b : Int)); refine (CALL2.out _ (SYM0.out _ hS1 (by omega)) (by omega) (by omega)).mono ?_; rintro e w3 ⟨rfl, hS3⟩))
                all_goals (first | (go_end0; exact ⟨rfl, HFIN.out _ hS3⟩) | exact ⟨rfl, HFIN.out _ hS3⟩)
              · have D1 : ¬ (((a : Int) + b) / 2 + m - i < b) := by have := HE.out; omega
                have E1 : Aside (SWB enc k (w.alloc (.cells (dat g lb sf sb) (ρ.t 42))) blk off d wr) := HS.out
                go_wp2_with (first | (go_at_fn (ρ.f 42); refine (ROTC.out (by omega) (by omega)).mono ?_; rintro e w1 ⟨rfl, hS1⟩; have d10 := swb_data hblk hS1 0 (.func (.func g) #[] lb) (by simp); have d11 := swb_data hblk hS1 1 (.func (.func sf) #[] sb) (by simp)))
                all_goals (first | (go_end0; exact ⟨rfl, HFIN.out _ (SYM9.out _ (SYM0.out _ hS1 (by omega)) (by omega))⟩) | exact ⟨rfl, HFIN.out _ (SYM9.out _ (SYM0.out _ hS1 (by omega)) (by omega))⟩)
          · have B1 : ¬ ((m : Int) < ((a : Int) + b) / 2 + m - i) := by have := HM.out; omega
            have B2 : ¬ ((i : Int) < ((a : Int) + b) / 2) := by have := HM.out; omega
            by_cases C : a < i
            · have C1 : (a : Int) < i := by omega
              by_cases D : mid + m - i < b
              · have D1 : ((a : Int) + b) / 2 + m - i < b := by have := HE.out; omega
                have E1 : Aside (SWB enc k (w.alloc (.cells (dat g lb sf sb) (ρ.t 42))) blk off d wr) := HS.out
                have hS1 := ROT0.out (by omega)
                go_wp2_with (first | (go_at_fn_of (ρ.f 30) (Value.int .i64 (b : Int)); refine (CALL2.out _ (SYM0.out _ hS1 (by omega)) (by omega) (by omega)).mono ?_; rintro e w3 ⟨rfl, hS3⟩))
                all_goals (first | (go_end0; exact ⟨rfl, HFIN.out _ hS3⟩) | exact ⟨rfl, HFIN.out _ hS3⟩)
              · have D1 : ¬ (((a : Int) + b) / 2 + m - i < b) := by have := HE.out; omega
                have E1 : Aside (SWB enc k (w.alloc (.cells (dat g lb sf sb) (ρ.t 42))) blk off d wr) := HS.out
                have hS1 := ROT0.out (by omega)
                go_wp2
                all_goals (first | (go_end0; exact ⟨rfl, HFIN.out _ (SYM9.out _ (SYM0.out _ hS1 (by omega)) (by omega))⟩) | exact ⟨rfl, HFIN.out _ (SYM9.out _ (SYM0.out _ hS1 (by omega)) (by omega))⟩)
            · have C1 : ¬ ((a : Int) < i) := by omega
              by_cases D : mid + m - i < b
              · have D1 : ((a : Int) + b) / 2 + m - i < b := by have := HE.out; omega
                have E1 : Aside (SWB enc k (w.alloc (.cells (dat g lb sf sb) (ρ.t 42))) blk off d wr) := HS.out
                have hS1 := ROT0.out (by omega)
                go_wp2_with (first | (go_at_fn_of (ρ.f 30) (Value.int .i64 (b : Int)); refine (CALL2.out _ (SYM0.out _ hS1 (by omega)) (by omega) (by omega)).mono ?_; rintro e w3 ⟨rfl, hS3⟩))
                all_goals (first | (go_end0; exact ⟨rfl, HFIN.out _ hS3⟩) | exact ⟨rfl, HFIN.out _ hS3⟩)
              · have D1 : ¬ (((a : Int) + b) / 2 + m - i < b) := by have := HE.out; omega
                have E1 : Aside (SWB enc k (w.alloc (.cells (dat g lb sf sb) (ρ.t 42))) blk off d wr) := HS.out
                have hS1 := ROT0.out (by omega)
                go_wp2
                all_goals (first | (go_end0; exact ⟨rfl, HFIN.out _ (SYM9.out _ (SYM0.out _ hS1 (by omega)) (by omega))⟩) | exact ⟨rfl, HFIN.out _ (SYM9.out _ (SYM0.out _ hS1 (by omega)) (by omega))⟩)
        · have A1 : ¬ ((i : Int) < m) := by omega
          have A2 : ¬ (((a : Int) + b) / 2 < ((a : Int) + b) / 2 + m - i) := by omega
          by_cases B : i < mid
          · have B1 : (m : Int) < ((a : Int) + b) / 2 + m - i := by have := HM.out; omega
            have B2 : (i : Int) < ((a : Int) + b) / 2 := by have := HM.out; omega
            by_cases C : a < i
            · have C1 : (a : Int) < i := by omega
              by_cases D : mid + m - i < b
              · have D1 : ((a : Int) + b) / 2 + m - i < b := by have := HE.out; omega
                have E1 : Aside (SWB enc k (w.alloc (.cells (dat g lb sf sb) (ρ.t 42))) blk off d wr) := HS.out
                have hS1 := ROT0.out (by omega)
                go_wp2_with (first | (go_at_fn_of (ρ.f 30) (Value.int .i64 (a : Int)); refine (CALL1.out _ hS1 (by omega) (by omega)).mono ?_; rintro e w2 ⟨rfl, hS2⟩; have d20 := swb_data hblk hS2 0 (.func (.func g) #[] lb) (by simp); have d21 := swb_data hblk hS2 1 (.func (.func sf) #[] sb) (by simp)))
                all_goals (first | (go_end0; exact ⟨rfl, HFIN.out _ (SYM9.out _ hS2 (by omega))⟩) | exact ⟨rfl, HFIN.out _ (SYM9.out _ hS2 (by omega))⟩)
              · have D1 : ¬ (((a : Int) + b) / 2 + m - i < b) := by have := HE.out; omega
                have E1 : Aside (SWB enc k (w.alloc (.cells (dat g lb sf sb) (ρ.t 42))) blk off d wr) := HS.out
                have hS1 := ROT0.out (by omega)
                go_wp2_with (first | (go_at_fn_of (ρ.f 30) (Value.int .i64 (a : Int)); refine (CALL1.out _ hS1 (by omega) (by omega)).mono ?_; rintro e w2 ⟨rfl, hS2⟩; have d20 := swb_data hblk hS2 0 (.func (.func g) #[] lb) (by simp); have d21 := swb_data hblk hS2 1 (.func (.func sf) #[] sb) (by simp)))
                all_goals (first | (go_end0; exact ⟨rfl, HFIN.out _ (SYM9.out _ hS2 (by omega))⟩) | exact ⟨rfl, HFIN.out _ (SYM9.out _ hS2 (by omega))⟩)
            · have C1 : ¬ ((a : Int) < i) := by omega
              by_cases D : mid + m - i < b
              · have D1 : ((a : Int) + b) / 2 + m - i < b := by have := HE.out; omega
                have E1 : Aside (SWB enc k (w.alloc (.cells (dat g lb sf sb) (ρ.t 42))) blk off d wr) := HS.out
                have hS1 := ROT0.out (by omega)
                go_wp2
                all_goals (first | (go_end0; exact ⟨rfl, HFIN.out _ (SYM9.out _ (SYM0.out _ hS1 (by omega)) (by omega))⟩) | exact ⟨rfl, HFIN.out _ (SYM9.out _ (SYM0.out _ hS1 (by omega)) (by omega))⟩)
              · have D1 : ¬ (((a : Int) + b) / 2 + m - i < b) := by have := HE.out; omega
                have E1 : Aside (SWB enc k (w.alloc (.cells (dat g lb sf sb) (ρ.t 42))) blk off d wr) := HS.out
                have hS1 := ROT0.out (by omega)
                go_wp2
                all_goals (first | (go_end0; exact ⟨rfl, HFIN.out _ (SYM9.out _ (SYM0.out _ hS1 (by omega)) (by omega))⟩) | exact ⟨rfl, HFIN.out _ (SYM9.out _ (SYM0.out _ hS1 (by omega)) (by omega))⟩)
          · have B1 : ¬ ((m : Int) < ((a : Int) + b) / 2 + m - i) := by have := HM.out; omega
            have B2 : ¬ ((i : Int) < ((a : Int) + b) / 2) := by have := HM.out; omega
            by_cases C : a < i
            · have C1 : (a : Int) < i := by omega
              by_cases D : mid + m - i < b
              · have D1 : ((a : Int) + b) / 2 + m - i < b := by have := HE.out; omega
                have E1 : Aside (SWB enc k (w.alloc (.cells (dat g lb sf sb) (ρ.t 42))) blk off d wr) := HS.out
                have hS1 := ROT0.out (by omega)
                go_wp2
                all_goals (first | (go_end0; exact ⟨rfl, HFIN.out _ (SYM9.out _ (SYM0.out _ hS1 (by omega)) (by omega))⟩) | exact ⟨rfl, HFIN.out _ (SYM9.out _ (SYM0.out _ hS1 (by omega)) (by omega))⟩)
              · have D1 : ¬ (((a : Int) + b) / 2 + m - i < b) := by have := HE.out; omega
                have E1 : Aside (SWB enc k (w.alloc (.cells (dat g lb sf sb) (ρ.t 42))) blk off d wr) := HS.out
                have hS1 := ROT0.out (by omega)
                go_wp2
                all_goals (first | (go_end0; exact ⟨rfl, HFIN.out _ (SYM9.out _ (SYM0.out _ hS1 (by omega)) (by omega))⟩) | exact ⟨rfl, HFIN.out _ (SYM9.out _ (SYM0.out _ hS1 (by omega)) (by omega))⟩)
            · have C1 : ¬ ((a : Int) < i) := by omega
              by_cases D : mid + m - i < b
              · have D1 : ((a : Int) + b) / 2 + m - i < b := by have := HE.out; omega
                have E1 : Aside (SWB enc k (w.alloc (.cells (dat g lb sf sb) (ρ.t 42))) blk off d wr) := HS.out
                have hS1 := ROT0.out (by omega)
                go_wp2
                all_goals (first | (go_end0; exact ⟨rfl, HFIN.out _ (SYM9.out _ (SYM0.out _ hS1 (by omega)) (by omega))⟩) | exact ⟨rfl, HFIN.out _ (SYM9.out _ (SYM0.out _ hS1 (by omega)) (by omega))⟩)
              · have D1 : ¬ (((a : Int) + b) / 2 + m - i < b) := by have := HE.out; omega
                have E1 : Aside (SWB enc k (w.alloc (.cells (dat g lb sf sb) (ρ.t 42))) blk off d wr) := HS.out
                have hS1 := ROT0.out (by omega)
                go_wp2
                all_goals (first | (go_end0; exact ⟨rfl, HFIN.out _ (SYM9.out _ (SYM0.out _ hS1 (by omega)) (by omega))⟩) | exact ⟨rfl, HFIN.out _ (SYM9.out _ (SYM0.out _ hS1 (by omega)) (by omega))⟩)
  · have hgz : ¬ (m : Int) > ((a : Int) + b) / 2 := by omega
    obtain ⟨s0, hs0⟩ : ∃ s0, s0 = a := ⟨_, rfl⟩
    obtain ⟨r0, hr0⟩ : ∃ r0, r0 = m := ⟨_, rfl⟩
    have h0 : (s0 = a ∧ r0 = m ∧ m ≤ mid) ∨ (s0 + b = mid + m ∧ r0 = mid ∧ mid < m) := .inl ⟨hs0, hr0, by omega⟩
    have H0 : Aside _ := h0
    have HRG : Aside _ := sym_range ham hmb hmid h0
    clear h0 hs0 hr0 hmid hgt
    go_enter L.f30, BodyGt.n30_ntmps ρ
    go_wp2
    go_loopw [18, 19] (fun vi vj wr => ∃ (i j : Nat), vi = .int .i64 i ∧ vj = .int .i64 j ∧ s0 ≤ i ∧ i ≤ j ∧ j ≤ r0 ∧ SWB enc k (w.alloc (.cells (dat g lb sf sb) (ρ.t 42))) blk off d wr ∧ (∀ q, s0 ≤ q → q < i → lt d[mid + m - 1 - q]! d[q]! = false) ∧ (∀ q, j ≤ q → q < r0 → lt d[mid + m - 1 - q]! d[q]! = true)) (fun vi vj _ => (intOf vj).toNat - (intOf vi).toNat)
    case atStart => exact ⟨s0, r0, by have h1 := HMID.out; have h2 := H0.out; congr 1; omega, by have h1 := HMID.out; have h2 := H0.out; congr 1; omega, Nat.le_refl _, HRG.out.2.1, Nat.le_refl _, SWB.start HH1.out, fun q h1 h2 => by omega, fun q h1 h2 => by omega⟩
    case round =>
      obtain ⟨i, j, rfl, rfl, hi0, hij, hjb, hS, hl, hr⟩ := hrel
      have c0 := swb_data hblk hS 0 (.func (.func g) #[] lb) (by simp)
      have c1 := swb_data hblk hS 1 (.func (.func sf) #[] sb) (by simp)
      have HS : Aside _ := hS
      have HL : Aside _ := hl
      have HR : Aside _ := hr
      have hls := fun (x y : Nat) (h1 : x < d.size) (h2 : y < d.size) => hS.less HL1.out rfl x y h1 h2
      have HLS : Aside _ := hls
      clear hS hl hr hls
      have hjm : j ≤ m := Nat.le_trans hjb HRG.out.2.2.1
      by_cases hz : i < j
      · have hz' : (i : Int) < j := by omega
        obtain ⟨p1, p2, p3, p4⟩ := HRG.out.2.2.2.2 ((i + j) / 2) (by omega) (by omega)
        have hl1 := HLS.out (mid + m - 1 - (i + j) / 2) ((i + j) / 2) (by omega) (by omega)
        rw [show ((mid + m - 1 - (i + j) / 2 : Nat) : Int) = ((a : Int) + b) / 2 + m - 1 - ((i : Int) + j) / 2 by have := HMID.out; omega, show (((i + j) / 2 : Nat) : Int) = ((i : Int) + j) / 2 by omega] at hl1
        have P1 : Aside _ := p1
        have P2 : Aside _ := p2
        have P3 : Aside _ := p3
        have P4 : Aside _ := p4
        clear p1 p2 p3 p4
        cases hv : lt d[mid + m - 1 - (i + j) / 2]! d[(i + j) / 2]! with
        | false =>
          rw [hv] at hl1
          go_wp2_with (go_at_fn g; refine hl1.mono ?_; rintro e w' ⟨rfl, hB⟩)
          go_roundw
          case rel => exact ⟨(i + j) / 2 + 1, j, by go_num, rfl, by omega, by omega, hjb, SWB.below HS.out hB, fun p h1 h2 => (Nat.lt_or_ge p ((i + j) / 2)).elim (fun h => by
            obtain ⟨g1, g2, g3, g4⟩ := HRG.out.2.2.2.2 p h1 (by omega)
            exact sym_low hlt HT1.out HT2.out g1 (by omega) P2.out P3.out (by omega) g4 hv) (fun h => by rw [show p = (i + j) / 2 by omega]; exact hv), HR.out⟩
          case measure => simp [intOf]; omega
        | true =>
          rw [hv] at hl1
          go_wp2_with (go_at_fn g; refine hl1.mono ?_; rintro e w' ⟨rfl, hB⟩)
          go_roundw
          case rel => exact ⟨i, (i + j) / 2, rfl, by go_num, hi0, by omega, by omega, SWB.below HS.out hB, HL.out, fun p h1 h2 => by
            obtain ⟨g1, g2, g3, g4⟩ := HRG.out.2.2.2.2 p (by omega) h2
            exact sym_high hlt HT1.out HT2.out P1.out h1 g2 g3 (by omega) P4.out hv⟩
          case measure => simp [intOf]; omega
      · obtain rfl : i = j := by omega
        have hz' : ¬ ((i : Int) < i) := by omega
        obtain ⟨⟨v1, v2, v3, v4, v5⟩, cl, cr⟩ := sym_cut hlt ham hmb HMID.out H0.out HT1.out HT2.out hi0 hjb HL.out HR.out
        have CL : Aside _ := cl
        have CR : Aside _ := cr
        clear cl cr
        have hE : ((mid + m - i : Nat) : Int) = ((a : Int) + b) / 2 + m - i := by have := HMID.out; omega
        have hM : ((mid : Nat) : Int) = ((a : Int) + b) / 2 := by have := HMID.out; omega
        have HE : Aside _ := hE
        have HM : Aside _ := hM
        have hHw := SWB.holds HS.out hblk1 HH1.out rfl
        have HHw : Aside _ := hHw
        have halv := sym_halves (lt := lt) (mid := mid) hlt v1 v2 v3 v4 hb (by omega) CL.out CR.out
        have HV : Aside _ := halv
        have HV3 : Aside (m ≤ mid + m - i) := v3
        have HV4 : Aside (mid + m - i ≤ b) := v4
        have HV5 : Aside (i ≤ mid) := v5
        clear hHw halv v3 v4 v5 hE hM
        have sz1 : (rotA d i m (mid + m - i)).size = d.size := rotA_size (by omega) HV3.out (by have := HV4.out; omega)
        have sz2 : (mrgA lt (rotA d i m (mid + m - i)) a i mid).size = d.size := by rw [mrgA_size lt (by omega) HV5.out (by have := HMID.out; omega), sz1]
        have SZ1 : Aside _ := sz1
        have SZ2 : Aside _ := sz2
        clear sz1 sz2
        have calls1 : ∀ W, SWB enc k (w.alloc (.cells (dat g lb sf sb) (ρ.t 42))) blk off (rotA d i m (mid + m - i)) W → a < i → i < mid → Calls P (ρ.f 30) #[.agg (dat g lb sf sb), .int .i64 a, .int .i64 i, .int .i64 (((a : Int) + b) / 2)] W fun e w'' => e = .returned (.tuple #[]) ∧ SWB enc k (w.alloc (.cells (dat g lb sf sb) (ρ.t 42))) blk off (mrgA lt (rotA d i m (mid + m - i)) a i mid) w'' := fun W hW g1 g2 => by
          have := IHH.out a i mid (rotA d i m (mid + m - i)) W (by have := HMID.out; omega) g1 g2 (by rw [SZ1.out]; have := HMID.out; omega) SZ1.out (hW.lessReads HL1.out hblk1 SZ1.out) (hW.holds hblk1 HH1.out SZ1.out) (hW.lt hblk1) (HV.out.2 HS1.out HS2.out).1 (HV.out.2 HS1.out HS2.out).2.1
          rw [HM.out] at this
          exact this.mono fun e w'' h => ⟨h.1, swb_down hblk1 hW h.2 (by rw [SZ2.out, SZ1.out])⟩
        have calls2 : ∀ W, SWB enc k (w.alloc (.cells (dat g lb sf sb) (ρ.t 42))) blk off (mrgA lt (rotA d i m (mid + m - i)) a i mid) W → i < m → mid + m - i < b → Calls P (ρ.f 30) #[.agg (dat g lb sf sb), .int .i64 (((a : Int) + b) / 2), .int .i64 (((a : Int) + b) / 2 + m - i), .int .i64 b] W fun e w'' => e = .returned (.tuple #[]) ∧ SWB enc k (w.alloc (.cells (dat g lb sf sb) (ρ.t 42))) blk off (mrgA lt d a m b) w'' := fun W hW g1 g2 => by
          have := IHH.out mid (mid + m - i) b (mrgA lt (rotA d i m (mid + m - i)) a i mid) W (by have := HMID.out; omega) (by omega) g2 (by rw [SZ2.out]; exact hb) SZ2.out (hW.lessReads HL1.out hblk1 SZ2.out) (hW.holds hblk1 HH1.out SZ2.out) (hW.lt hblk1) (HV.out.2 HS1.out HS2.out).2.2.1 (HV.out.2 HS1.out HS2.out).2.2.2
          rw [HM.out, HE.out, HV.out.1] at this
          exact this.mono fun e w'' h => ⟨h.1, swb_down hblk1 hW h.2 (by rw [mrgA_size lt (by omega) (by omega) hb, SZ2.out])⟩
        have rotc : i < m → m < mid + m - i → Calls P (ρ.f 42) #[.agg (dat g lb sf sb), .int .i64 i, .int .i64 m, .int .i64 (((a : Int) + b) / 2 + m - i)] wr fun e w'' => e = .returned (.tuple #[]) ∧ SWB enc k (w.alloc (.cells (dat g lb sf sb) (ρ.t 42))) blk off (rotA d i m (mid + m - i)) w'' := fun g1 g2 => by
          have := Sb.rotate LR enc k hk g lb sf sb blk off i m (mid + m - i) d wr HSWP.out HHw.out (SWB.lt HS.out hblk1) g1 g2 (by have := HV4.out; omega) hsz
          rw [HE.out] at this
          exact this.mono fun e w'' h => ⟨h.1, swb_down hblk1 HS.out h.2 SZ1.out⟩
        have rot0 : ¬ (i < m ∧ m < mid + m - i) → SWB enc k (w.alloc (.cells (dat g lb sf sb) (ρ.t 42))) blk off (rotA d i m (mid + m - i)) wr := fun g => by
          rw [rotA_id (by omega) HV3.out (by have := HV4.out; omega) g]; exact HS.out
        have sym0 : ∀ W, SWB enc k (w.alloc (.cells (dat g lb sf sb) (ρ.t 42))) blk off (rotA d i m (mid + m - i)) W → ¬ (a < i ∧ i < mid) → SWB enc k (w.alloc (.cells (dat g lb sf sb) (ρ.t 42))) blk off (mrgA lt (rotA d i m (mid + m - i)) a i mid) W := fun W hW g => by
          rw [mrgA_id (by omega) HV5.out (by rw [SZ1.out]; have := HMID.out; omega) g]; exact hW
        have sym9 : ∀ W, SWB enc k (w.alloc (.cells (dat g lb sf sb) (ρ.t 42))) blk off (mrgA lt (rotA d i m (mid + m - i)) a i mid) W → ¬ (mid < mid + m - i ∧ mid + m - i < b) → SWB enc k (w.alloc (.cells (dat g lb sf sb) (ρ.t 42))) blk off (mrgA lt d a m b) W := fun W hW g => by
          have h := HV.out.1
          rw [mrgA_id (d := mrgA lt (rotA d i m (mid + m - i)) a i mid) (by omega) HV4.out (by rw [SZ2.out]; exact hb) g] at h
          rw [← h]; exact hW
        have CALL1 : Aside _ := calls1
        have CALL2 : Aside _ := calls2
        have ROTC : Aside _ := rotc
        have ROT0 : Aside _ := rot0
        have SYM0 : Aside _ := sym0
        have SYM9 : Aside _ := sym9
        clear calls1 calls2 rotc rot0 sym0 sym9
        have hfin : ∀ W, SWB enc k (w.alloc (.cells (dat g lb sf sb) (ρ.t 42))) blk off (mrgA lt d a m b) W → SWB enc k w blk off (mrgA lt d a m b) W := fun W hW => swb_down hblk HW1.out hW (mrgA_size lt (by omega) (by omega) hb)
        have HFIN : Aside _ := hfin
        clear hfin
        by_cases A : i < m
        · have A1 : (i : Int) < m := by omega
          have A2 : ((a : Int) + b) / 2 < ((a : Int) + b) / 2 + m - i := by omega
          by_cases B : i < mid
          · have B1 : (m : Int) < ((a : Int) + b) / 2 + m - i := by have := HM.out; omega
            have B2 : (i : Int) < ((a : Int) + b) / 2 := by have := HM.out; omega
            by_cases C : a < i
            · have C1 : (a : Int) < i := by omega
              by_cases D : mid + m - i < b
              · have D1 : ((a : Int) + b) / 2 + m - i < b := by have := HE.out; omega
                have E1 : Aside (SWB enc k (w.alloc (.cells (dat g lb sf sb) (ρ.t 42))) blk off d wr) := HS.out
                go_wp2_with (first | (go_at_fn (ρ.f 42); refine (ROTC.out (by omega) (by omega)).mono ?_; rintro e w1 ⟨rfl, hS1⟩; have d10 := swb_data hblk hS1 0 (.func (.func g) #[] lb) (by simp); have d11 := swb_data hblk hS1 1 (.func (.func sf) #[] sb) (by simp)) | (go_at_fn_of (ρ.f 30) (Value.int .i64 (a : Int)); refine (CALL1.out _ hS1 (by omega) (by omega)).mono ?_; rintro e w2 ⟨rfl, hS2⟩; have d20 := swb_data hblk hS2 0 (.func (.func g) #[] lb) (by simp); have d21 := swb_data hblk hS2 1 (.func (.func sf) #[] sb) (by simp)) | (go_at_fn_of (ρ.f 30) (Value.int .i64 (b : Int)); refine (CALL2.out _ hS2 (by omega) (by omega)).mono ?_; rintro e w3 ⟨rfl, hS3⟩))
                all_goals (first | (go_end0; exact ⟨rfl, HFIN.out _ hS3⟩) | exact ⟨rfl, HFIN.out _ hS3⟩)
              · have D1 : ¬ (((a : Int) + b) / 2 + m - i < b) := by have := HE.out; omega
                have E1 : Aside (SWB enc k (w.alloc (.cells (dat g lb sf sb) (ρ.t 42))) blk off d wr) := HS.out
                go_wp2_with (first | (go_at_fn (ρ.f 42); refine (ROTC.out (by omega) (by omega)).mono ?_; rintro e w1 ⟨rfl, hS1⟩; have d10 := swb_data hblk hS1 0 (.func (.func g) #[] lb) (by simp); have d11 := swb_data hblk hS1 1 (.func (.func sf) #[] sb) (by simp)) | (go_at_fn_of (ρ.f 30) (Value.int .i64 (a : Int)); refine (CALL1.out _ hS1 (by omega) (by omega)).mono ?_; rintro e w2 ⟨rfl, hS2⟩; have d20 := swb_data hblk hS2 0 (.func (.func g) #[] lb) (by simp); have d21 := swb_data hblk hS2 1 (.func (.func sf) #[] sb) (by simp)))
                all_goals (first | (go_end0; exact ⟨rfl, HFIN.out _ (SYM9.out _ hS2 (by omega))⟩) | exact ⟨rfl, HFIN.out _ (SYM9.out _ hS2 (by omega))⟩)
            · have C1 : ¬ ((a : Int) < i) := by omega
              by_cases D : mid + m - i < b
              · have D1 : ((a : Int) + b) / 2 + m - i < b := by have := HE.out; omega
                have E1 : Aside (SWB enc k (w.alloc (.cells (dat g lb sf sb) (ρ.t 42))) blk off d wr) := HS.out
                go_wp2_with (first | (go_at_fn (ρ.f 42); refine (ROTC.out (by omega) (by omega)).mono ?_; rintro e w1 ⟨rfl, hS1⟩; have d10 := swb_data hblk hS1 0 (.func (.func g) #[] lb) (by simp); have d11 := swb_data hblk hS1 1 (.func (.func sf) #[] sb) (by simp)) | (go_at_fn_of (ρ.f 30) (Value.int .i64 (b : Int)); refine (CALL2.out _ (SYM0.out _ hS1 (by omega)) (by omega) (by omega)).mono ?_; rintro e w3 ⟨rfl, hS3⟩))
                all_goals (first | (go_end0; exact ⟨rfl, HFIN.out _ hS3⟩) | exact ⟨rfl, HFIN.out _ hS3⟩)
              · have D1 : ¬ (((a : Int) + b) / 2 + m - i < b) := by have := HE.out; omega
                have E1 : Aside (SWB enc k (w.alloc (.cells (dat g lb sf sb) (ρ.t 42))) blk off d wr) := HS.out
                go_wp2_with (first | (go_at_fn (ρ.f 42); refine (ROTC.out (by omega) (by omega)).mono ?_; rintro e w1 ⟨rfl, hS1⟩; have d10 := swb_data hblk hS1 0 (.func (.func g) #[] lb) (by simp); have d11 := swb_data hblk hS1 1 (.func (.func sf) #[] sb) (by simp)))
                all_goals (first | (go_end0; exact ⟨rfl, HFIN.out _ (SYM9.out _ (SYM0.out _ hS1 (by omega)) (by omega))⟩) | exact ⟨rfl, HFIN.out _ (SYM9.out _ (SYM0.out _ hS1 (by omega)) (by omega))⟩)
          · have B1 : ¬ ((m : Int) < ((a : Int) + b) / 2 + m - i) := by have := HM.out; omega
            have B2 : ¬ ((i : Int) < ((a : Int) + b) / 2) := by have := HM.out; omega
            by_cases C : a < i
            · have C1 : (a : Int) < i := by omega
              by_cases D : mid + m - i < b
              · have D1 : ((a : Int) + b) / 2 + m - i < b := by have := HE.out; omega
                have E1 : Aside (SWB enc k (w.alloc (.cells (dat g lb sf sb) (ρ.t 42))) blk off d wr) := HS.out
                have hS1 := ROT0.out (by omega)
                go_wp2_with (first | (go_at_fn_of (ρ.f 30) (Value.int .i64 (b : Int)); refine (CALL2.out _ (SYM0.out _ hS1 (by omega)) (by omega) (by omega)).mono ?_; rintro e w3 ⟨rfl, hS3⟩))
                all_goals (first | (go_end0; exact ⟨rfl, HFIN.out _ hS3⟩) | exact ⟨rfl, HFIN.out _ hS3⟩)
              · have D1 : ¬ (((a : Int) + b) / 2 + m - i < b) := by have := HE.out; omega
                have E1 : Aside (SWB enc k (w.alloc (.cells (dat g lb sf sb) (ρ.t 42))) blk off d wr) := HS.out
                have hS1 := ROT0.out (by omega)
                go_wp2
                all_goals (first | (go_end0; exact ⟨rfl, HFIN.out _ (SYM9.out _ (SYM0.out _ hS1 (by omega)) (by omega))⟩) | exact ⟨rfl, HFIN.out _ (SYM9.out _ (SYM0.out _ hS1 (by omega)) (by omega))⟩)
            · have C1 : ¬ ((a : Int) < i) := by omega
              by_cases D : mid + m - i < b
              · have D1 : ((a : Int) + b) / 2 + m - i < b := by have := HE.out; omega
                have E1 : Aside (SWB enc k (w.alloc (.cells (dat g lb sf sb) (ρ.t 42))) blk off d wr) := HS.out
                have hS1 := ROT0.out (by omega)
                go_wp2_with (first | (go_at_fn_of (ρ.f 30) (Value.int .i64 (b : Int)); refine (CALL2.out _ (SYM0.out _ hS1 (by omega)) (by omega) (by omega)).mono ?_; rintro e w3 ⟨rfl, hS3⟩))
                all_goals (first | (go_end0; exact ⟨rfl, HFIN.out _ hS3⟩) | exact ⟨rfl, HFIN.out _ hS3⟩)
              · have D1 : ¬ (((a : Int) + b) / 2 + m - i < b) := by have := HE.out; omega
                have E1 : Aside (SWB enc k (w.alloc (.cells (dat g lb sf sb) (ρ.t 42))) blk off d wr) := HS.out
                have hS1 := ROT0.out (by omega)
                go_wp2
                all_goals (first | (go_end0; exact ⟨rfl, HFIN.out _ (SYM9.out _ (SYM0.out _ hS1 (by omega)) (by omega))⟩) | exact ⟨rfl, HFIN.out _ (SYM9.out _ (SYM0.out _ hS1 (by omega)) (by omega))⟩)
        · have A1 : ¬ ((i : Int) < m) := by omega
          have A2 : ¬ (((a : Int) + b) / 2 < ((a : Int) + b) / 2 + m - i) := by omega
          by_cases B : i < mid
          · have B1 : (m : Int) < ((a : Int) + b) / 2 + m - i := by have := HM.out; omega
            have B2 : (i : Int) < ((a : Int) + b) / 2 := by have := HM.out; omega
            by_cases C : a < i
            · have C1 : (a : Int) < i := by omega
              by_cases D : mid + m - i < b
              · have D1 : ((a : Int) + b) / 2 + m - i < b := by have := HE.out; omega
                have E1 : Aside (SWB enc k (w.alloc (.cells (dat g lb sf sb) (ρ.t 42))) blk off d wr) := HS.out
                have hS1 := ROT0.out (by omega)
                go_wp2_with (first | (go_at_fn_of (ρ.f 30) (Value.int .i64 (a : Int)); refine (CALL1.out _ hS1 (by omega) (by omega)).mono ?_; rintro e w2 ⟨rfl, hS2⟩; have d20 := swb_data hblk hS2 0 (.func (.func g) #[] lb) (by simp); have d21 := swb_data hblk hS2 1 (.func (.func sf) #[] sb) (by simp)))
                all_goals (first | (go_end0; exact ⟨rfl, HFIN.out _ (SYM9.out _ hS2 (by omega))⟩) | exact ⟨rfl, HFIN.out _ (SYM9.out _ hS2 (by omega))⟩)
              · have D1 : ¬ (((a : Int) + b) / 2 + m - i < b) := by have := HE.out; omega
                have E1 : Aside (SWB enc k (w.alloc (.cells (dat g lb sf sb) (ρ.t 42))) blk off d wr) := HS.out
                have hS1 := ROT0.out (by omega)
                go_wp2_with (first | (go_at_fn_of (ρ.f 30) (Value.int .i64 (a : Int)); refine (CALL1.out _ hS1 (by omega) (by omega)).mono ?_; rintro e w2 ⟨rfl, hS2⟩; have d20 := swb_data hblk hS2 0 (.func (.func g) #[] lb) (by simp); have d21 := swb_data hblk hS2 1 (.func (.func sf) #[] sb) (by simp)))
                all_goals (first | (go_end0; exact ⟨rfl, HFIN.out _ (SYM9.out _ hS2 (by omega))⟩) | exact ⟨rfl, HFIN.out _ (SYM9.out _ hS2 (by omega))⟩)
            · have C1 : ¬ ((a : Int) < i) := by omega
              by_cases D : mid + m - i < b
              · have D1 : ((a : Int) + b) / 2 + m - i < b := by have := HE.out; omega
                have E1 : Aside (SWB enc k (w.alloc (.cells (dat g lb sf sb) (ρ.t 42))) blk off d wr) := HS.out
                have hS1 := ROT0.out (by omega)
                go_wp2
                all_goals (first | (go_end0; exact ⟨rfl, HFIN.out _ (SYM9.out _ (SYM0.out _ hS1 (by omega)) (by omega))⟩) | exact ⟨rfl, HFIN.out _ (SYM9.out _ (SYM0.out _ hS1 (by omega)) (by omega))⟩)
              · have D1 : ¬ (((a : Int) + b) / 2 + m - i < b) := by have := HE.out; omega
                have E1 : Aside (SWB enc k (w.alloc (.cells (dat g lb sf sb) (ρ.t 42))) blk off d wr) := HS.out
                have hS1 := ROT0.out (by omega)
                go_wp2
                all_goals (first | (go_end0; exact ⟨rfl, HFIN.out _ (SYM9.out _ (SYM0.out _ hS1 (by omega)) (by omega))⟩) | exact ⟨rfl, HFIN.out _ (SYM9.out _ (SYM0.out _ hS1 (by omega)) (by omega))⟩)
          · have B1 : ¬ ((m : Int) < ((a : Int) + b) / 2 + m - i) := by have := HM.out; omega
            have B2 : ¬ ((i : Int) < ((a : Int) + b) / 2) := by have := HM.out; omega
            by_cases C : a < i
            · have C1 : (a : Int) < i := by omega
              by_cases D : mid + m - i < b
              · have D1 : ((a : Int) + b) / 2 + m - i < b := by have := HE.out; omega
                have E1 : Aside (SWB enc k (w.alloc (.cells (dat g lb sf sb) (ρ.t 42))) blk off d wr) := HS.out
                have hS1 := ROT0.out (by omega)
                go_wp2
                all_goals (first | (go_end0; exact ⟨rfl, HFIN.out _ (SYM9.out _ (SYM0.out _ hS1 (by omega)) (by omega))⟩) | exact ⟨rfl, HFIN.out _ (SYM9.out _ (SYM0.out _ hS1 (by omega)) (by omega))⟩)
              · have D1 : ¬ (((a : Int) + b) / 2 + m - i < b) := by have := HE.out; omega
                have E1 : Aside (SWB enc k (w.alloc (.cells (dat g lb sf sb) (ρ.t 42))) blk off d wr) := HS.out
                have hS1 := ROT0.out (by omega)
                go_wp2
                all_goals (first | (go_end0; exact ⟨rfl, HFIN.out _ (SYM9.out _ (SYM0.out _ hS1 (by omega)) (by omega))⟩) | exact ⟨rfl, HFIN.out _ (SYM9.out _ (SYM0.out _ hS1 (by omega)) (by omega))⟩)
            · have C1 : ¬ ((a : Int) < i) := by omega
              by_cases D : mid + m - i < b
              · have D1 : ((a : Int) + b) / 2 + m - i < b := by have := HE.out; omega
                have E1 : Aside (SWB enc k (w.alloc (.cells (dat g lb sf sb) (ρ.t 42))) blk off d wr) := HS.out
                have hS1 := ROT0.out (by omega)
                go_wp2
                all_goals (first | (go_end0; exact ⟨rfl, HFIN.out _ (SYM9.out _ (SYM0.out _ hS1 (by omega)) (by omega))⟩) | exact ⟨rfl, HFIN.out _ (SYM9.out _ (SYM0.out _ hS1 (by omega)) (by omega))⟩)
              · have D1 : ¬ (((a : Int) + b) / 2 + m - i < b) := by have := HE.out; omega
                have E1 : Aside (SWB enc k (w.alloc (.cells (dat g lb sf sb) (ρ.t 42))) blk off d wr) := HS.out
                have hS1 := ROT0.out (by omega)
                go_wp2
                all_goals (first | (go_end0; exact ⟨rfl, HFIN.out _ (SYM9.out _ (SYM0.out _ hS1 (by omega)) (by omega))⟩) | exact ⟨rfl, HFIN.out _ (SYM9.out _ (SYM0.out _ hS1 (by omega)) (by omega))⟩)
end Go.Proofs
end

section
/- sort.symMerge_func at elements of k cells. -/
set_option linter.unusedSimpArgs false
set_option linter.unusedVariables false
namespace Go.Proofs
open Go.Shelf Go.RowKit Go.Lib Go.Sort Go.Ev
variable {P : Program} {ρ : Ren} {α : Type} [Inhabited α]
theorem Sb.symMerge {n0 : Nat} (L : LaysGt.n30 P ρ) (enc : α → List Value) (k : Nat) (hk : ∀ x, (enc x).length = k) (lt : α → α → Bool) (hlt : Weak lt) (g : Nat) (lb : Array Value) (sf : Nat) (sb : Array Value) (blk off : Nat)
    (eg : ∀ args w, (callFunc g args).run P w = .ok (.enter g args) w) (hsz : n0 < 4611686018427387904) (hswap : SwapSwapsK P sf sb enc k blk off n0) :
    ∀ (n a m b : Nat) (d : Array α) (w : World), b - a ≤ n → d.size = n0 → LessB P g lb enc k lt blk off n0 w → HoldsK enc k w blk off d → blk < w.heap.size → a < m → m < b → b ≤ n0 → Srt lt (seg d a m) → Srt lt (seg d m b) →
    Calls P (ρ.f 30) #[.agg (dat g lb sf sb), .int .i64 a, .int .i64 m, .int .i64 b] w fun e w' => e = .returned (.tuple #[]) ∧ SWB enc k w blk off (mrgA lt d a m b) w' := by
  intro n
  induction n with
  | zero => intro a m b d w h1 h2 h3 h4 h5 h6 h7; omega
  | succ n ih =>
    intro a m b d w h1 h2 hless hH hblk ham hmb hb hs1 hs2
    subst h2
    by_cases e1 : m - a = 1
    · exact Sb.symMerge_one L enc k hk lt hlt g lb sf sb blk off a m b (by omega) d w eg hless hswap hH hblk hmb hb hsz hs2
    · by_cases e2 : b - m = 1
      · exact Sb.symMerge_last L enc k hk lt hlt g lb sf sb blk off a m b (by omega) d w eg hless hswap hH hblk ham e1 hb hsz hs1
      · refine Sb.symMerge_many L enc k hk lt hlt g lb sf sb blk off a m b ham d w eg hless hswap hH hblk hmb e1 e2 hb hsz hs1 hs2 ?_
        intro a' m' b' d' w' g1 g2 g3 g4 g5 g6 g7 g8 g9 g10
        exact ih a' m' b' d' w' (by omega) g5 g6 g7 g8 g2 g3 (by omega) g9 g10
end Go.Proofs
end

section
/- sort.insertionSort_func at elements of k cells. -/
set_option linter.unusedSimpArgs false
set_option linter.unusedVariables false
namespace Go.Proofs
open Go.Shelf Go.RowKit Go.Lib Go.Sort Go.Ev
variable {P : Program} {ρ : Ren} {α : Type} [Inhabited α]
set_option maxHeartbeats 4000000 in
set_option maxRecDepth 100000 in
theorem Sb.insertion (L : LaysGt.n29 P ρ) (enc : α → List Value) (k : Nat) (hk : ∀ x, (enc x).length = k) (lt : α → α → Bool) (g : Nat) (lb : Array Value) (sf : Nat) (sb : Array Value) (blk off a b : Nat) (d : Array α) (w : World)
    (eg : ∀ args w, (callFunc g args).run P w = .ok (.enter g args) w) (hless : LessB P g lb enc k lt blk off d.size w) (hswap : SwapSwapsK P sf sb enc k blk off d.size)
    (hH : HoldsK enc k w blk off d) (hblk : blk < w.heap.size) (hab : a ≤ b) (hb : b ≤ d.size) (hsz : d.size < 4611686018427387904) :
    Calls P (ρ.f 29) #[.agg (dat g lb sf sb), .int .i64 a, .int .i64 b] w fun e w' => e = .returned (.tuple #[]) ∧ SWB enc k w blk off (Sort.insertionSort lt d a b) w' := by
  have mixed := L.mixed; have t0 := L.t0; have a0 := L.a0; have z0 := L.z0; have v0 := L.v0; have t3 := L.t3; have a3 := L.a3; have z3 := L.z3; have v3 := L.v3; have t4 := L.t4; have a4 := L.a4; have z4 := L.z4; have v4 := L.v4; have t26 := L.t26; have a26 := L.a26; have z26 := L.z26; have v26 := L.v26; have t38 := L.t38; have a38 := L.a38; have z38 := L.z38; have v38 := L.v38; have t42 := L.t42; have a42 := L.a42; have z42 := L.z42; have v42 := L.v42
  have u42 := run_underlying L.t42
  have hW1 : SWB enc k w blk off d (w.alloc (.cells (dat g lb sf sb) (ρ.t 42))) := (SWB.start hH).alloc _
  have hH1 : HoldsK enc k (w.alloc (.cells (dat g lb sf sb) (ρ.t 42))) blk off d := hW1.holds hblk hH rfl
  have hblk1 : blk < (w.alloc (.cells (dat g lb sf sb) (ρ.t 42))).heap.size := hW1.lt hblk
  have hL1 : LessB P g lb enc k lt blk off d.size (w.alloc (.cells (dat g lb sf sb) (ρ.t 42))) := hW1.lessReads hless hblk rfl
  have HW1 : Aside _ := hW1
  have HH1 : Aside _ := hH1
  have HL1 : Aside _ := hL1
  have HSWP : Aside _ := hswap
  clear hW1 hH1 hL1 hswap hless hH
  go_enter L.f29, BodyGt.n29_ntmps ρ
  go_wp2
  go_loopw [6] (fun vi wr => ∃ (i : Nat) (dk : Array α), vi = .int .i64 i ∧ a < i ∧ i ≤ b + 1 ∧ dk.size = d.size ∧ SWB enc k (w.alloc (.cells (dat g lb sf sb) (ρ.t 42))) blk off dk wr ∧ insOuter lt a b i dk = insOuter lt a b (a + 1) d) (fun vi _ => b + 1 - (intOf vi).toNat)
  case atStart => exact ⟨a + 1, d, by go_num, by omega, by omega, rfl, SWB.start HH1.out, rfl⟩
  case round =>
    obtain ⟨i, dk, rfl, hai, hib, hsk, hS, hO⟩ := hrel
    have HO : Aside _ := hO
    have HS : Aside _ := hS
    clear hO hS
    by_cases hz : i < b
    · have hz' : (i : Int) < b := by omega
      go_wp2
      go_loopw [7] (fun vj wr2 => ∃ (j : Nat) (dj : Array α), vj = .int .i64 j ∧ a ≤ j ∧ j ≤ i ∧ dj.size = d.size ∧ SWB enc k (w.alloc (.cells (dat g lb sf sb) (ρ.t 42))) blk off dj wr2 ∧ insInner lt a j dj = insInner lt a i dk) (fun vj _ => (intOf vj).toNat)
      case atStart => exact ⟨i, dk, rfl, by omega, Nat.le_refl _, hsk, HS.out, rfl⟩
      case round =>
        obtain ⟨j, dj, rfl, haj, hji, hsj, hS2, hI⟩ := hrel
        have c0 := swb_data hblk hS2 0 (.func (.func g) #[] lb) (by simp)
        have c1 := swb_data hblk hS2 1 (.func (.func sf) #[] sb) (by simp)
        have HI : Aside _ := hI
        have HS2 : Aside _ := hS2
        clear hI hS2
        have out : (j ≤ a ∨ lt dj[j]! dj[j - 1]! = false) → ∀ W, SWB enc k (w.alloc (.cells (dat g lb sf sb) (ρ.t 42))) blk off dj W → ∃ i' dk', Value.int .i64 ((i : Int) + 1) = .int .i64 (i' : Nat) ∧ a < i' ∧ i' ≤ b + 1 ∧ dk'.size = d.size ∧
            SWB enc k (w.alloc (.cells (dat g lb sf sb) (ρ.t 42))) blk off dk' W ∧ insOuter lt a b i' dk' = insOuter lt a b (a + 1) d := fun hs W hW =>
          ⟨i + 1, dj, by go_num, by omega, by omega, hsj, hW, by rw [← HO.out, insOuter_go _ _ _ _ _ hz, ← HI.out, insInner_stop _ _ _ _ hs]⟩
        have OUT : Aside _ := out
        clear out
        by_cases hja : a < j
        · have hja' : (j : Int) > a := by omega
          have hl := SWB.less HS2.out HL1.out hsj j (j - 1) (by omega) (by omega)
          rw [show (((j - 1 : Nat) : Int)) = (j : Int) - 1 by omega] at hl
          cases hlv : lt dj[j]! dj[j - 1]! with
          | true =>
            rw [hlv] at hl
            have next : ∀ w', Below wr.heap.size wr w' → (w'.cell? ⟨w.heap.size, 0, none⟩ = some (.func (.func g) #[] lb) ∧ w'.cell? ⟨w.heap.size, 1, none⟩ = some (.func (.func sf) #[] sb)) ∧ (callFunc sf (#[.int .i64 j, .int .i64 ((j : Int) - 1)] ++ sb)).run P w' = .ok (.value (.tuple #[])) ((w'.setCells blk (off + j * k) (enc dj[j - 1]!)).setCells blk (off + (j - 1) * k) (enc dj[j]!)) ∧ SWB enc k (w.alloc (.cells (dat g lb sf sb) (ρ.t 42))) blk off (swp dj j (j - 1)) ((w'.setCells blk (off + j * k) (enc dj[j - 1]!)).setCells blk (off + (j - 1) * k) (enc dj[j]!)) := fun w' hB => by
              have hS3 := SWB.below HS2.out hB
              have hs := HSWP.out w' dj (hS3.holds hblk1 HH1.out hsj) hsj j (j - 1) (by omega) (by omega)
              rw [show (((j - 1 : Nat) : Int)) = (j : Int) - 1 by omega] at hs
              exact ⟨⟨swb_data hblk hS3 0 (.func (.func g) #[] lb) (by simp), swb_data hblk hS3 1 (.func (.func sf) #[] sb) (by simp)⟩, hs, SWB.swap hS3 hk hblk1 j (j - 1) (by omega) (by omega)⟩
            have NEXT : Aside _ := next
            clear next
            go_wp2_with (go_at_fn g; refine hl.mono ?_; rintro e w' ⟨rfl, hB⟩; have d0 := (NEXT.out w' hB).1.1; have d1 := (NEXT.out w' hB).1.2; have hs := (NEXT.out w' hB).2.1; have HS3 : Aside _ := (NEXT.out w' hB).2.2; clear hB)
            go_roundw
            case rel => exact ⟨j - 1, swp dj j (j - 1), by go_num, by omega, by omega, by rw [size_swp]; exact hsj, HS3.out, by rw [← HI.out, insInner_go lt a j dj hja hlv]⟩
            case measure => simp [intOf]; omega
          | false =>
            rw [hlv] at hl
            go_wp2_with (go_at_fn g; refine hl.mono ?_; rintro e w' ⟨rfl, hB⟩)
            go_roundw
            case rel => exact OUT.out (Or.inr hlv) _ (SWB.below HS2.out hB)
            case measure => simp [intOf]; omega
        · have hja' : ¬ ((j : Int) > a) := by omega
          go_wp2
          go_roundw
          case rel => exact OUT.out (Or.inl (by omega)) _ HS2.out
          case measure => simp [intOf]; omega
    · have hz' : ¬ ((i : Int) < b) := by omega
      go_wp2
      go_end0
      refine ⟨rfl, ?_⟩
      unfold Sort.insertionSort
      rw [← HO.out, insOuter_stop _ _ _ _ _ hz]
      exact swb_down hblk HW1.out HS.out hsk
end Go.Proofs
end
