/- The evaluator and its soundness, part 7. -/
import Derived.Test.YtfdmjgmipnohkaaAnEvF
import Derived.Test.YtfdmjgmipnohkaaAnEvA
import Derived.Sort.LotA
import Derived.Test.YtfdmjgmipnohkaaAnEvD
import Derived.Shelf.GgSortMore.Lays
import Derived.Shelf.SlSortFuncK.SWK
import Derived.Deep.LoopGhost
section
/- A region whose operations come in any order: sound. -/
set_option linter.unusedSimpArgs false
set_option linter.unusedVariables false
namespace Go.Ev
open Go.RowKit (Below)

/-- how many are left -/
def left (n : Nat) (listed : Array Bool) : Nat := ((List.range n).filter fun i => !listed.getD i true).length
theorem filter_le {α : Type} {p q : α → Bool} (h : ∀ a, q a = true → p a = true) : ∀ l : List α, (l.filter q).length ≤ (l.filter p).length
  | [] => by simp
  | a :: l => by
    have ih := filter_le h l
    by_cases hq : q a = true
    · simp [List.filter_cons, hq, h a hq]; exact ih
    · by_cases hp : p a = true
      · simp [List.filter_cons, hq, hp]; omega
      · simp [List.filter_cons, hq, hp]; exact ih
theorem filter_lt {α : Type} {p q : α → Bool} (h : ∀ a, q a = true → p a = true) (x : α) (hp : p x = true) (hq : q x = false) : ∀ l : List α, x ∈ l → (l.filter q).length < (l.filter p).length
  | [], hx => by simp at hx
  | a :: l, hx => by
    have hle := filter_le h l
    rcases List.mem_cons.1 hx with e | e
    · subst e
      simp [List.filter_cons, hp, hq]; omega
    · have ih := filter_lt h x hp hq l e
      by_cases hqa : q a = true
      · simp [List.filter_cons, hqa, h a hqa]; exact ih
      · by_cases hpa : p a = true
        · simp [List.filter_cons, hqa, hpa]; omega
        · simp [List.filter_cons, hqa, hpa]; exact ih

section
variable {P : Program} {w0 : Base} {G0 : Nat → Prop} {N : Nat} {Γ : Tab} {Δ : List (Nat × Con)} {k : Nat} {ρ : Type}

/-- What is known while operations are done in some order. -/
structure Amid (w0 : Base) (G0 : Nat → Prop) (N : Nat) (all : List Oper) (n0 : Nat) (T : List Tr) (S0 : Nat → Option SV) (O0 : Nat → Option Obj) (listed : Array Bool) (m : St) (e : Env) (tm : Array Value) : Prop where
  size : listed.size = all.length
  rel : Rel w0 G0 N [] m e tm
  slots : ∀ t, find e.slots t = foldW (fun i => listed.getD i false) 0 (T.map wS) S0 t
  objs : ∀ i, find e.objs i = foldW (fun i => listed.getD i false) 0 (T.map wO) O0 i
  nms : ∀ i, m.D i → i < n0 ∨ ∃ j, j < all.length ∧ listed.getD j false = true ∧ n0 + nmW * j ≤ i ∧ i < n0 + nmW * j + nmW
  closed : ∀ j o, all[j]? = some o → listed.getD j false = true → ∀ x ∈ o.after.toList, binding x = true → listed.getD x.on false = true

theorem getD_set {l : Array Bool} {i j : Nat} (hi : i < l.size) : (l.setIfInBounds i true).getD j false = if i = j then true else l.getD j false := by
  simp only [Array.getD_eq_getD_getElem?]
  by_cases h : i = j
  · subst h
    rw [Array.getElem?_setIfInBounds_self_of_lt hi]
    simp
  · rw [Array.getElem?_setIfInBounds_ne h]
    simp [h]
theorem getD_set' {l : Array Bool} {i j : Nat} (hi : i < l.size) : (l.setIfInBounds i true).getD j true = if i = j then true else l.getD j true := by
  simp only [Array.getD_eq_getD_getElem?]
  by_cases h : i = j
  · subst h
    rw [Array.getElem?_setIfInBounds_self_of_lt hi]
    simp
  · rw [Array.getElem?_setIfInBounds_ne h]
    simp [h]
theorem getD_in {l : Array Bool} {j : Nat} (hj : j < l.size) : l.getD j true = l.getD j false := by
  simp [Array.getD_eq_getD_getElem?, hj]

theorem any_sound (hΓ : TabOk P Γ) (hΔ : DelOk P w0.o Δ) {ops : Array Oper} {all : List Oper} (hall : ops.toList = all) {an : List (Nat × List Nat)} (han : an = ancs 0 all []) (hdst : ∀ o ∈ all, dstOk w0.ps N o.dst = true) (hok : slotsOk all an 0 all = true)
    {n0 : Nat} {T : List Tr} {S0 : Nat → Option SV} {O0 : Nat → Option Obj} (hT : TrS Γ Δ k all n0 0 all T S0 O0)
    (hC : ∀ i i' x x', i < i' → T[i]? = some x → T[i']? = some x' → x.did = true → x'.did = true → Cl an (rcOf i x) i' x') {Q : Exit → Act → World → Prop}
    (hQ : ∀ m e tm, Rel w0 G0 N [] m e tm → (∀ i, m.D i → i < n0 + nmW * all.length) → (∀ t, find e.slots t = foldW (fun _ => true) 0 (T.map wS) S0 t) → (∀ i, find e.objs i = foldW (fun _ => true) 0 (T.map wO) O0 i) → Q .normal ⟨tm, []⟩ m.w) :
    ∀ (fuel : Nat) (listed : Array Bool) (m : St) (e : Env) (tm : Array Value), left all.length listed ≤ fuel → Amid w0 G0 N all n0 T S0 O0 listed m e tm → wpAny P .any ops Q fuel listed ⟨tm, []⟩ m.w := by
  have hlen : ops.size = all.length := by rw [← hall, Array.length_toList]
  have hTl := hT.length
  -- nothing is ready: all is done
  have fin : ∀ (listed : Array Bool) (m : St) (e : Env) (tm : Array Value), Region.ready .any ops listed = [] → Amid w0 G0 N all n0 T S0 O0 listed m e tm → Q .normal ⟨tm, []⟩ m.w := by
    intro listed m e tm hr hA
    have hdone : ∀ i, i < all.length → listed.getD i false = true := by
      intro i
      induction i using Nat.strongRecOn with
      | _ i ih =>
        intro hi
        cases hb : listed.getD i false with
        | true => rfl
        | false =>
          exfalso
          have ho : ops[i]? = some all[i] := by rw [← Array.getElem?_toList, hall]; simp
          obtain ⟨anc, _, _, hback⟩ := slotsOk_spec all 0 hok i all[i] (by simp)
          rw [Nat.zero_add] at hback
          have hmem : i ∈ Region.ready .any ops listed := by
            unfold Region.ready
            rw [List.mem_filter]
            refine ⟨List.mem_range.2 (by omega), ?_⟩
            rw [getD_in (by rw [hA.size]; exact hi), hb, ho]
            simp only [Bool.not_false, Bool.true_and, Option.map_some, Option.getD_some]
            rw [Array.all_eq_true_iff_forall_mem]
            intro x hx
            rw [binding_eq]
            cases hbx : binding x with
            | false => rfl
            | true =>
              have hlt := edgesBack_spec hback x (by simpa using hx) hbx
              simp [ih x.on hlt (by omega)]
          rw [hr] at hmem
          simp at hmem
    refine hQ m e tm hA.rel (fun i hi => ?_) (fun t => ?_) (fun i => ?_)
    · rcases hA.nms i hi with h | ⟨j, hj, _, _, h⟩
      · omega
      · have : nmW * (j + 1) ≤ nmW * all.length := Nat.mul_le_mul_left _ hj
        rw [Nat.mul_add, Nat.mul_one] at this
        omega
    · rw [hA.slots t]
      refine foldW_congr t _ 0 _ _ rfl fun j f hf _ => ?_
      have hj : j < T.length := by
        have := (List.getElem?_eq_some_iff.1 hf).1
        simpa using this
      rw [Nat.zero_add]
      exact hdone j (by omega)
    · rw [hA.objs i]
      refine foldW_congr i _ 0 _ _ rfl fun j f hf _ => ?_
      have hj : j < T.length := by
        have := (List.getElem?_eq_some_iff.1 hf).1
        simpa using this
      rw [Nat.zero_add]
      exact hdone j (by omega)
  intro fuel
  induction fuel with
  | zero =>
    intro listed m e tm hf hA
    have hr : Region.ready .any ops listed = [] := by
      unfold Region.ready
      rw [List.filter_eq_nil_iff]
      intro i hi hx
      have h0 : ((List.range all.length).filter fun i => !listed.getD i true) = [] := List.eq_nil_of_length_eq_zero (by unfold left at hf; omega)
      rw [List.filter_eq_nil_iff] at h0
      have := h0 i (by rw [← hlen]; exact hi)
      simp only [Bool.and_eq_true] at hx
      exact this hx.1
    exact ⟨hr, fin listed m e tm hr hA⟩
  | succ fuel ih =>
    intro listed m e tm hf hA
    refine ⟨fun hr => fin listed m e tm hr hA, fun i hi => ?_⟩
    unfold Region.ready at hi
    rw [List.mem_filter] at hi
    obtain ⟨hir, hip⟩ := hi
    have hin : i < all.length := by rw [← hlen]; exact List.mem_range.1 hir
    have ho : ops[i]? = some all[i] := by rw [← Array.getElem?_toList, hall]; simp
    have hoa : all[i]? = some all[i] := by simp
    generalize all[i] = o at ho hoa
    simp only [Bool.and_eq_true] at hip
    obtain ⟨hnl, hedg⟩ := hip
    rw [getD_in (by rw [hA.size]; exact hin)] at hnl
    have hLi : listed.getD i false = false := by simpa using hnl
    have hedges : ∀ x ∈ o.after.toList, binding x = true → listed.getD x.on false = true := by
      intro x hx hb
      rw [ho] at hedg
      simp only [Option.map_some, Option.getD_some] at hedg
      rw [Array.all_eq_true_iff_forall_mem] at hedg
      have := hedg x (by simpa using hx)
      rw [binding_eq, hb] at this
      simpa using this
    obtain ⟨x, hx⟩ : ∃ x, T[i]? = some x := ⟨_, List.getElem?_eq_getElem (by omega)⟩
    have hF := hT.get i o x hoa hx
    rw [Nat.zero_add] at hF
    obtain ⟨hxd, hxn, hcase⟩ := hF
    -- what comes ahead of i is done; what is done has not i ahead
    have ahead : ∀ anc, find an i = some anc → ∀ a ∈ anc, listed.getD a false = true := by
      intro anc ha
      rw [han] at ha
      exact anc_done (L := fun a => listed.getD a false = true) hA.closed i anc ha fun o' ho' => by
        rw [hoa] at ho'
        obtain rfl := Option.some.inj ho'
        exact hedges
    have later : ∀ j, listed.getD j false = true → ∀ anc, find an j = some anc → i ∉ anc := by
      intro j hj anc ha hm
      rw [han] at ha
      have := anc_done (L := fun a => listed.getD a false = true) hA.closed j anc ha (fun o' ho' => hA.closed j o' ho' hj) i hm
      rw [hLi] at this
      cases this
    have hTo : ∀ (j : Nat) (y : Tr), T[j]? = some y → ∃ oj : Oper, all[j]? = some oj ∧ y.dst = oj.dst := by
      intro j y hy
      have hj : j < all.length := by
        have := (List.getElem?_eq_some_iff.1 hy).1
        omega
      have := (hT.get j all[j] y (by simp) hy).1
      exact ⟨all[j], by simp, this⟩
    obtain ⟨anci, hanci, hpair, _⟩ := slotsOk_spec all 0 hok i o hoa
    rw [Nat.zero_add] at hanci hpair
    -- who writes what i looks at
    have slotsSame : ∀ t, t ∈ looks all o → find e.slots t = foldW (fun q => decide (q < i)) 0 (T.map wS) S0 t := by
      intro t ht
      rw [hA.slots t]
      refine foldW_congr t _ 0 _ _ rfl fun j f hfj hft => ?_
      rw [Nat.zero_add]
      rw [List.getElem?_map] at hfj
      cases hy : T[j]? with
      | none => rw [hy] at hfj; simp at hfj
      | some y =>
        rw [hy] at hfj
        simp only [Option.map_some, Option.some.injEq] at hfj
        subst hfj
        have hyd : y.dst = some t := by
          unfold wS at hft
          by_cases h : y.dst = some t
          · exact h
          · rw [if_neg h] at hft; exact absurd rfl hft
        obtain ⟨oj, hoj, hdj⟩ := hTo j y hy
        rw [hyd] at hdj
        rcases Nat.lt_trichotomy j i with hlt | rfl | hgt
        · have : listed.getD j false = true := by
            rcases hpair j oj hlt hoj with h | h
            · exact ahead anci hanci j h
            · exact absurd ht ((slotsApart_spec h).1 t hdj.symm)
          simp [this, hlt]
        · simp [hLi]
        · cases hLj : listed.getD j false with
          | false => simp; omega
          | true =>
            exfalso
            obtain ⟨ancj, hancj, hpj, _⟩ := slotsOk_spec all 0 hok j oj hoj
            rw [Nat.zero_add] at hancj hpj
            rcases hpj i o hgt hoa with h | h
            · exact later j hLj ancj hancj h
            · exact (slotsApart_spec h).2.1 t hdj.symm ht
    -- later ones that are done leave i's slot and objects alone
    have slotAlone : ∀ t, o.dst = some t → ∀ j y, i < j → T[j]? = some y → listed.getD j false = true → y.dst ≠ some t := by
      intro t ht j y hgt hy hLj hyd
      obtain ⟨oj, hoj, hdj⟩ := hTo j y hy
      obtain ⟨ancj, hancj, hpj, _⟩ := slotsOk_spec all 0 hok j oj hoj
      rw [Nat.zero_add] at hancj hpj
      rcases hpj i o hgt hoa with h | h
      · exact later j hLj ancj hancj h
      · exact (slotsApart_spec h).2.2 t ht (by rw [← hdj]; exact hyd)
    have hisz : i < listed.size := by rw [hA.size]; exact hin
    have hLset : ∀ j, (listed.setIfInBounds i true).getD j false = if i = j then true else listed.getD j false := fun j => getD_set hisz
    have hleft : left all.length (listed.setIfInBounds i true) ≤ fuel := by
      have : left all.length (listed.setIfInBounds i true) < left all.length listed := by
        unfold left
        refine filter_lt (fun a ha => ?_) i ?_ ?_ _ (List.mem_range.2 hin)
        · rw [getD_set' hisz] at ha
          by_cases h : i = a
          · rw [if_pos h] at ha; simp at ha
          · rw [if_neg h] at ha; exact ha
        · rw [getD_in hisz, hLi]; rfl
        · rw [getD_set' hisz, if_pos rfl]; rfl
      omega
    have closed' : ∀ j o', all[j]? = some o' → (listed.setIfInBounds i true).getD j false = true → ∀ y ∈ o'.after.toList, binding y = true → (listed.setIfInBounds i true).getD y.on false = true := by
      intro j o' ho' hj y hy hb
      rw [hLset] at hj ⊢
      by_cases h : i = y.on
      · rw [if_pos h]
      · rw [if_neg h]
        by_cases hij : i = j
        · subst hij
          rw [hoa] at ho'
          obtain rfl := Option.some.inj ho'
          exact hedges y hy hb
        · rw [if_neg hij] at hj
          exact hA.closed j o' ho' hj y hy hb
    have slots' : ∀ e' : Env, find e'.slots = find e.slots → ∀ t, find (e'.put o.dst x.sv).slots t = foldW (fun q => (listed.setIfInBounds i true).getD q false) 0 (T.map wS) S0 t := by
      intro e' he' t
      rw [find_put]
      have hxi : (T.map wS)[i]? = some (wS x) := by rw [List.getElem?_map, hx]; rfl
      by_cases ht : o.dst = some t
      · have : wS x t = some (some x.sv) := by unfold wS; rw [hxd, if_pos ht]
        rw [foldW_hit t (some x.sv) _ 0 _ i (wS x) hxi this (by rw [Nat.zero_add, hLset, if_pos rfl]) ?_]
        · simp [ovr, ht]
        · intro j f hlt hfj hLj
          rw [List.getElem?_map] at hfj
          cases hy : T[j]? with
          | none => rw [hy] at hfj; simp at hfj
          | some y =>
            rw [hy] at hfj
            simp only [Option.map_some, Option.some.injEq] at hfj
            subst hfj
            rw [Nat.zero_add, hLset, if_neg (by omega)] at hLj
            unfold wS
            rw [if_neg (slotAlone t ht j y hlt hy hLj)]
      · have e1 : ovr (fun t => if o.dst = some t then some (some x.sv) else none) (find e'.slots) t = find e.slots t := by
          simp [ovr, ht, he']
        rw [e1, hA.slots t]
        refine foldW_congr t _ 0 _ _ rfl fun j f hfj hft => ?_
        rw [Nat.zero_add, hLset]
        by_cases hij : i = j
        · subst hij
          rw [hxi] at hfj
          obtain rfl := Option.some.inj hfj
          exfalso
          apply hft
          unfold wS
          rw [hxd, if_neg ht]
        · rw [if_neg hij]
    -- the guard
    have guard : ∀ {okp : Bool → SV → Prop}, Guarded all o (foldW (fun q => decide (q < i)) 0 (T.map wS) S0) okp → ∃ g want p s sv v, o.guard = some (g, want) ∧ nth all g = some p ∧ p.dst = some s ∧ tm[s]? = some v ∧ Sv m sv v ∧ okp want sv := by
      intro okp ⟨g, want, p, s, sv, h1, h2, h3, h4, h5⟩
      rw [← slotsSame s (looks_guard h1 h2 h3)] at h4
      obtain ⟨v, hv, hsv⟩ := hA.rel.slots s sv h4
      exact ⟨g, want, p, s, sv, v, h1, h2, h3, hv, hsv, h5⟩
    unfold wpOp
    rw [ho]
    simp only
    rcases hcase with ⟨hdid, hg, hwr, E0, e1, hE1, hE2, hE3, hev, hout⟩ | ⟨hdid, hsv, hg⟩
    · -- it is done
      have hw : Region.wanted o (yielded ops tm) = true := by
        rcases hg with hg | hg
        · simp [Region.wanted, hg]
        · obtain ⟨g, want, p, s, sv, v, h1, h2, h3, hv, hsv, h5⟩ := guard hg
          subst h5
          have : v = .bool want := hsv
          subst this
          simp only [Region.wanted, h1, yielded_bool hall h2 h3 hv]
          cases want <;> rfl
      simp only [hw, if_true]
      left
      have objsSame : ∀ q, q ∈ x.fp → find e.objs q = foldW (fun q => decide (q < i)) 0 (T.map wO) O0 q := by
        intro q hq
        rw [hA.objs q]
        refine foldW_congr q _ 0 _ _ rfl fun j f hfj hft => ?_
        rw [Nat.zero_add]
        rw [List.getElem?_map] at hfj
        cases hy : T[j]? with
        | none => rw [hy] at hfj; simp at hfj
        | some y =>
          rw [hy] at hfj
          simp only [Option.map_some, Option.some.injEq] at hfj
          subst hfj
          have hyd : y.did = true ∧ q ∈ names nmW y.n ++ y.wr := by
            unfold wO at hft
            by_cases h : y.did = true ∧ q ∈ names nmW y.n ++ y.wr
            · exact h
            · rw [if_neg h] at hft; exact absurd rfl hft
          rcases Nat.lt_trichotomy j i with hlt | rfl | hgt
          · have : listed.getD j false = true := by
              obtain ⟨anc, ha, hc⟩ := hC j i y x hlt hy hx hyd.1 hdid
              rcases hc with h | ⟨h, _⟩
              · exact ahead anc ha j h
              · exact absurd (List.mem_append_right _ hq) (h q hyd.2)
            simp [this, hlt]
          · simp [hLi]
          · cases hLj : listed.getD j false with
            | false => simp; omega
            | true =>
              exfalso
              obtain ⟨anc, ha, hc⟩ := hC i j x y hgt hx hy hdid hyd.1
              rcases hc with h | ⟨_, h⟩
              · exact later j hLj anc ha h
              · exact h q (List.mem_append_right _ hq) hyd.2
      have hwsub : ∀ q, q ∈ names nmW x.n ++ x.wr → q ∈ names nmW x.n ++ x.fp := by
        intro q hq
        rcases List.mem_append.1 hq with h | h
        · exact List.mem_append_left _ h
        · rcases hwr with ⟨_, h'⟩ | h'
          · rw [h'] at h; simp at h
          · rw [h'] at h; exact List.mem_append_right _ h
      have hok0 : ObjsOk w0 G0 m e.objs := by have := hA.rel.ok; rwa [List.append_nil] at this
      -- the relation, told of what it looks at; all else lies beside it
      have hR0 : Rel w0 G0 N (without x.fp e.objs) m E0 tm := by
        refine ⟨hok0.congr fun q => ?_, fun q ob hq => ?_, hA.rel.tms, fun t sv ht => ?_⟩
        · rw [find_append, hE2, find_without]
          by_cases hq : q ∈ x.fp
          · simp only [hq, if_true]
            rw [← objsSame q hq]
            cases find e.objs q <;> rfl
          · simp only [hq, if_false]
        · rw [hE2] at hq
          rw [find_without]
          by_cases h : q ∈ x.fp
          · rw [if_pos h]
          · rw [if_neg h] at hq; cases hq
        · rw [hE1] at ht
          by_cases h : t ∈ tmpsOf o.op.operands.toList
          · rw [if_pos h, ← slotsSame t (looks_ops h)] at ht
            exact hA.rel.slots t sv ht
          · rw [if_neg h] at ht; cases ht
      have hfr : Fr m E0 := by
        intro q h1 h2 hD
        rw [hE3, hxn] at h1 h2
        rcases hA.nms _ hD with h | ⟨j, _, hj, h3, h4⟩
        · omega
        · have : j = i := by
            rcases Nat.lt_trichotomy j i with hlt | rfl | hgt
            · have : nmW * (j + 1) ≤ nmW * i := Nat.mul_le_mul_left _ hlt
              rw [Nat.mul_add, Nat.mul_one] at this
              omega
            · rfl
            · have : nmW * (i + 1) ≤ nmW * j := Nat.mul_le_mul_left _ hgt
              rw [Nat.mul_add, Nat.mul_one] at this
              omega
          subst this
          rw [hLi] at hj
          cases hj
      refine op_sound (a := ⟨tm, []⟩) hΓ hΔ hR0 hfr o hev ?_
      intro m' e' s v ⟨g1, g2, g3, g4, g5⟩
      have e2 : (s, e') = (x.sv, e1) := Option.some.inj g5
      have es : s = x.sv := congrArg Prod.fst e2
      have ee : e' = e1 := congrArg Prod.snd e2
      subst es; subst ee
      have hxn' : E0.next = x.n := hE3
      -- the objects behind it
      have hsub : ∀ q ob, find (only (names nmW x.n ++ x.wr) e'.objs ++ without (names nmW x.n ++ x.wr) e.objs) q = some ob → find (e'.objs ++ without x.fp e.objs) q = some ob := by
        intro q ob hq
        rw [find_mix] at hq
        by_cases h : q ∈ names nmW x.n ++ x.wr
        · rw [if_pos h] at hq
          exact find_left hq
        · rw [if_neg h] at hq
          by_cases hqf : q ∈ x.fp
          · rcases hwr with ⟨hrd, hw0⟩ | hw0
            · have hqn : q ≠ E0.next := fun hh => h (List.mem_append_left _ (by rw [← hxn', hh]; exact mem_names.2 ⟨Nat.le_refl _, by unfold nmW; omega⟩))
              have := g2 hrd q hqn
              rw [hE2, if_pos hqf, ← objsSame q hqf, hq] at this
              exact find_left this
            · exact absurd (List.mem_append_right _ (by rw [hw0]; exact hqf)) h
          · have hFq : find (without x.fp e.objs) q = some ob := by rw [find_without, if_neg hqf]; exact hq
            have hn : find e'.objs q = none := by
              cases hz : find e'.objs q with
              | none => rfl
              | some z =>
                have := g3.disj q z hz
                rw [hFq] at this
                cases this
            rw [find_append, hn]
            exact hFq
      have hR1 : Rel w0 G0 N [] m' ⟨e.slots, only (names nmW x.n ++ x.wr) e'.objs ++ without (names nmW x.n ++ x.wr) e.objs, e.next⟩ tm := by
        refine ⟨by rw [List.append_nil]; exact g3.ok.keep hsub, fun _ _ _ => rfl, hA.rel.tms, fun t sv ht => ?_⟩
        obtain ⟨u, hu, hs⟩ := hA.rel.slots t sv ht
        exact ⟨u, hu, hs.le g1.le⟩
      rw [put_act]
      refine ih _ m' (Env.put ⟨e.slots, only (names nmW x.n ++ x.wr) e'.objs ++ without (names nmW x.n ++ x.wr) e.objs, e.next⟩ o.dst x.sv) _ hleft ⟨by simp [hA.size], hR1.put (hdst o (List.mem_of_getElem? hoa)) g4, slots' _ rfl, fun q => ?_, fun q hq => ?_, closed'⟩
      · rw [put_objs]
        simp only
        rw [find_mix]
        have hxi : (T.map wO)[i]? = some (wO x) := by rw [List.getElem?_map, hx]; rfl
        by_cases h : q ∈ names nmW x.n ++ x.wr
        · rw [if_pos h]
          have : wO x q = some (find e'.objs q) := by
            unfold wO
            rw [if_pos ⟨hdid, h⟩, hout]
          rw [foldW_hit q (find e'.objs q) _ 0 _ i (wO x) hxi this (by rw [Nat.zero_add, hLset, if_pos rfl]) ?_]
          intro j f hlt hfj hLj
          rw [List.getElem?_map] at hfj
          cases hy : T[j]? with
          | none => rw [hy] at hfj; simp at hfj
          | some y =>
            rw [hy] at hfj
            simp only [Option.map_some, Option.some.injEq] at hfj
            subst hfj
            rw [Nat.zero_add, hLset, if_neg (by omega)] at hLj
            unfold wO
            rw [if_neg]
            intro hyd
            obtain ⟨anc, ha, hc⟩ := hC i j x y hlt hx hy hdid hyd.1
            rcases hc with hc | ⟨_, hc⟩
            · exact later j hLj anc ha hc
            · exact hc q (hwsub q h) hyd.2
        · rw [if_neg h, hA.objs q]
          refine foldW_congr q _ 0 _ _ rfl fun j f hfj hft => ?_
          rw [Nat.zero_add, hLset]
          by_cases hij : i = j
          · subst hij
            rw [hxi] at hfj
            obtain rfl := Option.some.inj hfj
            exfalso
            apply hft
            unfold wO
            rw [if_neg fun hh => h hh.2]
          · rw [if_neg hij]
      · rcases g1.D q hq with h | ⟨h, h'⟩
        · rcases hA.nms q h with h | ⟨j, hj, hjl, h3⟩
          · exact .inl h
          · refine .inr ⟨j, hj, ?_, h3⟩
            rw [hLset]
            by_cases hij : i = j
            · rw [if_pos hij]
            · rw [if_neg hij]; exact hjl
        · refine .inr ⟨i, hin, by rw [hLset, if_pos rfl], ?_, ?_⟩
          · rw [← hxn, ← hxn']; exact h
          · have := g1.most
            rw [← hxn, ← hxn']; omega
    · -- it is left out
      have hw : Region.wanted o (yielded ops tm) = false := by
        obtain ⟨g, want, p, s, sv, v, h1, h2, h3, hv, hsv', h5⟩ := guard hg
        rcases h5 with h5 | h5
        · subst h5
          have : v = .bool (!want) := hsv'
          subst this
          simp only [Region.wanted, h1, yielded_bool hall h2 h3 hv]
          cases want <;> rfl
        · subst h5
          obtain ⟨xs, e2, hxs⟩ := hsv'
          have : xs = [] := by cases xs with
            | nil => rfl
            | cons => exact absurd hxs (by simp [R2])
          subst this
          subst e2
          simp only [Region.wanted, h1, yielded_none hall h2 h3 hv]
          rfl
      simp only [hw, Bool.false_eq_true, if_false]
      rw [put_act]
      have hput := hA.rel.put (d := o.dst) (hdst o (List.mem_of_getElem? hoa)) (undef_sv (m := m))
      rw [← hsv] at hput
      refine ih _ m (e.put o.dst x.sv) _ hleft ⟨by simp [hA.size], hput, slots' e rfl, fun q => ?_, fun q hq => ?_, closed'⟩
      · rw [put_objs, hA.objs q]
        refine foldW_congr q _ 0 _ _ rfl fun j f hfj hft => ?_
        rw [Nat.zero_add, hLset]
        by_cases hij : i = j
        · subst hij
          rw [List.getElem?_map, hx] at hfj
          simp only [Option.map_some, Option.some.injEq] at hfj
          subst hfj
          exfalso
          apply hft
          unfold wO
          rw [if_neg fun hh => by rw [hdid] at hh; cases hh.1]
        · rw [if_neg hij]
      · rcases hA.nms q hq with h | ⟨j, hj, hjl, h3⟩
        · exact .inl h
        · refine .inr ⟨j, hj, ?_, h3⟩
          rw [hLset]
          by_cases hij : i = j
          · rw [if_pos hij]
          · rw [if_neg hij]; exact hjl

theorem draw_sound {wo : World} (hΓ : TabOk P Γ) (hΔ : DelOk P wo Δ) (hm : P.follows .mixedOrders = true) : DrawSound P wo Γ Δ := by
  intro w0 G0 N m e tm k id ρ ops K r Q hwo hdst hok hR hf h hQ
  subst hwo
  refine wp_region_any hm ?_
  obtain ⟨T, ef, g1, g2, g3, g4, g5, _, g7⟩ := trace (n0 := e.next) ops.toList 0 [] e (by simp) h
  have hok0 : ObjsOk w0 G0 m e.objs := by have := hR.ok; rwa [List.append_nil] at this
  have hle := le_drew m
  let m' : St := { m with w := m.w.drew }
  have hR' : Rel w0 G0 N [] m' e tm := hR.world hle (hR.ok.world hle hR.ok.base.drew (fun _ _ _ => rfl) (fun b hb => ⟨.inl hb, hR.ok.liveG b hb⟩) (fun b hb => ⟨.inl hb, hR.ok.liveH b hb⟩) (Nat.le_refl _) hR.ok.gh)
  have hw : ({ m.w with drawn := m.w.drawn + 1 } : World) = m'.w := rfl
  rw [hw]
  have hfalse : ∀ j, (Array.replicate ops.size false).getD j false = false := fun j => by
    simp only [Array.getD_eq_getD_getElem?, Array.getElem?_replicate]
    split <;> rfl
  refine any_sound (m := m') (w0 := w0) (G0 := G0) (N := N) hΓ hΔ rfl rfl hdst hok g1 (fun i i' x x' hlt hx hx' hd hd' => by simpa using g7 i i' x x' hlt hx hx' hd hd') ?_ ops.size _ e tm ?_ ⟨by simp, hR', fun t => ?_, fun i => ?_, fun i hi => .inl (hf i hi), fun j o _ hj => by rw [hfalse] at hj; cases hj⟩
  · intro m2 e2 tm2 hR2 hD2 hs2 ho2
    have e1 : find e2.slots = find ef.slots := by rw [g4]; funext t; exact hs2 t
    have e3 : find e2.objs = find ef.objs := by rw [g5]; funext i; exact ho2 i
    refine hQ m2 ef tm2 ⟨?_, fun _ _ _ => rfl, hR2.tms, fun t sv ht => hR2.slots t sv (by rw [e1]; exact ht)⟩ (fun i hi => ?_) g2
    · have := hR2.ok
      rw [List.append_nil] at this ⊢
      exact this.congr fun i => by rw [e3]
    · have := hD2 i hi
      rw [g3]
      simpa using this
  · unfold left
    have := List.length_filter_le (fun i => !(Array.replicate ops.size false).getD i true) (List.range ops.toList.length)
    simpa using this
  · rw [foldW_all_false (fun j _ => hfalse j)]
  · rw [foldW_all_false (fun j _ => hfalse j)]
end
end Go.Ev
end

section
/- A function. -/
set_option linter.unusedSimpArgs false
set_option linter.unusedVariables false
namespace Go.Ev
open Go.RowKit (Below)

section
variable {P : Program} {w0 : Base} {G0 : Nat → Prop} {N : Nat} {Γ : Tab} {Δ : List (Nat × Con)} {A : Ann} {m : St} {e : Env} {tm : Array Value}

theorem startArg_sound {a : AT} {x : a.den} {v : Value} {s : Nat} {bl rest : List Nat} (h : ArgG m.w m.G m.H a x v bl) (hs : tm[s]? = some v) (hc : Cur w0 G0 N m e tm (bl ++ rest)) :
    ∃ m', Grow m m' ∧ Cur w0 G0 N m' (startArg e s a x) tm rest := by
  cases a with
  | val t =>
    obtain ⟨rfl, cs, hv, ha⟩ := h
    exact ⟨m, .refl m, hc.slot hs (sv_ofTy hv ha)⟩
  | srt Ts => exact h.elim
  | ptr t =>
    obtain ⟨rfl, b, o, cs, e1, hb, hcl, hv⟩ := h
    exact ⟨m, .refl m, hc.slot hs (sv := .one (.el t x 0)) ⟨b, o, cs, by simpa using e1, hb, hcl, hv⟩⟩
  | clo f ts =>
    obtain ⟨rfl, cv, e1, hcp⟩ := h
    exact ⟨m, .refl m, hc.slot hs (sv := .one (.clo f (startCaps ts x))) ⟨cv, e1, capsH_cp ts x cv hcp⟩⟩
  | io t =>
    obtain ⟨cs, ha, hv, hi⟩ := h
    obtain ⟨m', g, hc', r⟩ := hc.openT hv hi
    exact ⟨m', g, hc'.slot hs (svOf_sv r ha)⟩
  | own t =>
    obtain ⟨cs, ha, hv, hi⟩ := h
    obtain ⟨m', g, hc', r⟩ := hc.openT hv hi
    exact ⟨m', g, hc'.slot hs (svOf_sv r ha)⟩
  | var t =>
    obtain ⟨b, cs, T, bl', rfl, hh, hv, hi, rfl⟩ := h
    rw [List.append_assoc] at hc
    obtain ⟨m1, g1, hc1, r1⟩ := hc.openT hv hi
    obtain ⟨m2, g2, hc2, l2⟩ := hc1.var (T := T) (by rw [g1.w]; exact hh) r1
    exact ⟨m2, g1.trans g2, hc2.slot hs (sv := .one (.loc _ 0)) l2⟩
theorem startArgs_sound : ∀ (ats : List AT) (x : ATs.den ats) (l : List Value) (s : Nat) (m : St) (e : Env) (bl rest : List Nat), ArgsG m.w m.G m.H ats x l bl → (∀ i v, l[i]? = some v → tm[s + i]? = some v) → Cur w0 G0 N m e tm (bl ++ rest) →
    ∃ m', Grow m m' ∧ Cur w0 G0 N m' (startArgs e s ats x) tm rest
  | [], x, l, s, m, e, bl, rest, ⟨_, h⟩, ht, hc => by subst h; exact ⟨m, .refl m, hc⟩
  | a :: r, x, [], s, m, e, bl, rest, h, ht, hc => by simp [ArgsG] at h
  | a :: r, x, v :: l, s, m, e, bl, rest, ⟨b1, b2, e1, h1, h2⟩, ht, hc => by
    subst e1
    rw [List.append_assoc] at hc
    obtain ⟨m1, g1, c1⟩ := startArg_sound h1 (ht 0 v rfl) hc
    obtain ⟨m2, g2, c2⟩ := startArgs_sound r x.2 l (s + 1) m1 _ b2 rest (by rw [g1.w, g1.G, g1.H]; exact h2) (fun i u hu => by
      have := ht (i + 1) u (by simpa using hu)
      rwa [show s + 1 + i = s + (i + 1) from by omega]) c1
    exact ⟨m2, g1.trans g2, c2⟩

/-- A result variable, read. -/
def resRun (tm : Array Value) : ResultVar → Sem Value
  | .tmp t => pure (tm.getD t undef)
  | .cell a t => do loadVar t (← asAddr (tm.getD a undef))
theorem results_eq (fn : Func) (tm : Array Value) : results fn tm = (do
    let vs ← fn.results.mapM (resRun tm)
    pure (if h : vs.size = 1 then vs[0] else .tuple vs)) := by
  unfold results
  congr 1
theorem run_mapM : ∀ (rs : List ResultVar) (l : List Value) (w : World), R2 (fun r v => (resRun tm r).run P w = .ok v w) rs l → (rs.mapM (resRun tm)).run P w = .ok l w
  | [], [], w, _ => by simp
  | r :: rs, v :: l, w, ⟨h1, h2⟩ => by
    have ih := run_mapM rs l w h2
    simp only [List.mapM_cons, Sem.run_bind, h1, Result.andThen_ok, ih, Sem.run_pure]
  | [], _ :: _, w, h => by simp [R2] at h
  | _ :: _, [], w, h => by simp [R2] at h
theorem results_run (fn : Func) {l : List Value} {w : World} (h : R2 (fun r v => (resRun tm r).run P w = .ok v w) fn.results.toList l) : (results fn tm).run P w = .ok (asRes l) w := by
  have h1 := run_mapM _ _ w h
  rw [results_eq, Array.mapM_eq_mapM_toList]
  simp only [Sem.run_bind, Sem.run_map, h1, Sem.run_pure, Result.andThen_ok]
  match l with
  | [] => simp [asRes]
  | [v] => simp [asRes]
  | a :: b :: r => simp [asRes]

/-- What one of the answers is. -/
def FinOk (P : Program) (w : World) (G : Nat → Prop) (tm : Array Value) (p : Sigma Ty.den) (v : Value) (bl : List Nat) : Fyn → Prop
  | .res r => (resRun tm r).run P w = .ok v w ∧ Own1 w G p v bl
  | .argv s => tm[s]? = some v ∧ OutG w G (.var p.1) p v bl
  | .argi s => tm[s]? = some v ∧ OutG w G (.io p.1) p v bl
def FinAll (P : Program) (w : World) (G : Nat → Prop) (tm : Array Value) : List (Sigma Ty.den) → List Fyn → List Value → List Nat → Prop
  | [], [], l, bl => l = [] ∧ bl = []
  | p :: ps, f :: fs, v :: l, bl => ∃ b1 b2, bl = b1 ++ b2 ∧ FinOk P w G tm p v b1 f ∧ FinAll P w G tm ps fs l b2
  | _, _, _, _ => False

theorem finVar_sound {Gr : Nat → Prop} {ov : List (Nat × Obj)} (hk : Tk m e.objs ov false Gr) {t : Ty} {id : Nat} {vs : List V} {x : t.den} (hf : find e.objs id = some (.var vs)) (hn : (idsT t vs ++ [id]).Nodup) (h : takeT false e.objs ov t vs = some x) :
    ∃ cs T bl, m.w.heap[m.β id]? = some (.cells (List.toArray cs) T (0, 0)) ∧ Val m.w Gr t x cs ∧ Inn m.w Gr t x cs bl ∧ (bl ++ [m.β id]).Nodup ∧ ∀ b ∈ bl ++ [m.β id], ∃ i ∈ idsT t vs ++ [id], blk e.objs m i b := by
  have hnd := List.nodup_append.1 hn
  obtain ⟨cs, T, hh, hr⟩ := hk.ho id _ hf
  obtain ⟨hval, bl, h3, h4, h5⟩ := takeT_sound hk hnd.1 h hr
  have hβ : blk e.objs m id (m.β id) := by unfold blk; rw [hf]
  refine ⟨cs, T, bl, hh, hval, h3, List.nodup_append.2 ⟨h4, by simp, fun p hp q hq e1 => ?_⟩, fun b hb => ?_⟩
  · subst e1
    simp only [List.mem_singleton] at hq
    subst hq
    obtain ⟨i, hi, hb⟩ := h5 _ hp
    exact hnd.2.2 i hi id (by simp) (hk.inj i id _ hb hβ)
  · rcases List.mem_append.1 hb with hb | hb
    · obtain ⟨i, hi, hb⟩ := h5 _ hb
      exact ⟨i, List.mem_append_left _ hi, hb⟩
    · simp only [List.mem_singleton] at hb
      subst hb
      exact ⟨id, by simp, hβ⟩
theorem resOf1_sound {Gr : Nat → Prop} {ov : List (Nat × Obj)} (hΓ : TabOk P Γ) (hk : Tk m e.objs ov false Gr) (hR : Rel w0 G0 N [] m e tm) {t : Ty} {f : Fyn} {x : t.den} (hn : (finIds e t f).Nodup) (h : resOf1 Γ e.objs ov e t f = some x) :
    ∃ v bl, FinOk P m.w Gr tm ⟨t, x⟩ v bl f ∧ bl.Nodup ∧ ∀ b ∈ bl, ∃ i ∈ finIds e t f, blk e.objs m i b := by
  cases f with
  | res r =>
    cases r with
    | tmp s =>
      simp only [resOf1] at h
      cases hs : e.get s with
      | none => simp [hs] at h
      | some sv =>
        simp only [hs] at h
        simp only [finIds, finSlot, finVar, hs] at hn ⊢
        obtain ⟨v, hv, hsv⟩ := hR.slots s sv hs
        obtain ⟨cs, h1, h2, bl, h3, h4, h5⟩ := takeSV_sound hk hn h hsv
        exact ⟨v, bl, ⟨by simp [resRun, Array.getD_eq_getD_getElem?, hv], cs, h1, h2, h3⟩, h4, h5⟩
    | cell s T =>
      simp only [resOf1] at h
      cases hf : find Γ T with
      | none => simp [hf] at h
      | some ti =>
        cases hs : e.get s with
        | none => simp [hf, hs] at h
        | some sv =>
          obtain ⟨v, hv, hsv⟩ := hR.slots s sv hs
          cases sv with
          | one y =>
            cases y with
            | loc id off =>
              cases off with
              | succ => simp [hf, hs] at h
              | zero =>
                simp only [hf, hs] at h
                cases ht : tyEq ti.ty.era t.era with
                | false => simp [ht] at h
                | true =>
                  cases ho : find e.objs id with
                  | none => simp [ht, ho] at h
                  | some o =>
                    cases o with
                    | var vs =>
                      simp only [ht, ho] at h
                      have ho2 : e.obj id = some (.var vs) := ho
                      simp only [finIds, finSlot, finVar, hs, ho2] at hn ⊢
                      obtain ⟨cs, U, bl, hh, hval, hin, hnd, hb⟩ := finVar_sound hk ho hn h
                      have hsz : ti.ty.size = t.size := by rw [← size_era ti.ty, ← size_era t, tyEq_eq ht]
                      have hag : ti.ty.isAgg = t.isAgg := by
                        have key : ∀ u : Ty, u.era.isAgg = u.isAgg := fun u => by cases u <;> rfl
                        rw [← key ti.ty, ← key t, tyEq_eq ht]
                      obtain ⟨_, e1⟩ := hsv
                      obtain ⟨z, g1, g2⟩ := run_load' (hΓ T ti hf) (cells_of_heap hh) (by rw [hsz]; exact hval.length)
                      have hnd' := List.nodup_append.1 hnd
                      refine ⟨z, bl, ⟨?_, cs, ?_, hval, hin⟩, hnd'.1, fun b hm => hb b (List.mem_append_left _ hm)⟩
                      · rw [← g1]
                        simp [resRun, Array.getD_eq_getD_getElem?, hv, e1, asAddr, Instr.loadAt, Instr.sureAddr]
                      · unfold AsVal at g2 ⊢
                        rw [← hag]; exact g2
                    | _ => simp [ht, ho] at h
            | _ => simp [hf, hs] at h
          | _ => simp [hf, hs] at h
  | argv s =>
    simp only [resOf1] at h
    cases hs : e.get s with
    | none => simp [hs] at h
    | some sv =>
      obtain ⟨v, hv, hsv⟩ := hR.slots s sv hs
      cases sv with
      | one y =>
        cases y with
        | loc id off =>
          cases off with
          | succ => simp [hs] at h
          | zero =>
            simp only [hs] at h
            cases ho : find e.objs id with
            | none => simp [ho] at h
            | some o =>
              cases o with
              | var vs =>
                simp only [ho] at h
                have ho2 : e.obj id = some (.var vs) := ho
                simp only [finIds, finSlot, finVar, hs, ho2] at hn ⊢
                obtain ⟨cs, U, bl, hh, hval, hin, hnd, hb⟩ := finVar_sound hk ho hn h
                exact ⟨v, bl ++ [m.β id], ⟨hv, rfl, m.β id, cs, U, bl, hsv.2, hh, hval, hin, rfl⟩, hnd, hb⟩
              | _ => simp [ho] at h
        | _ => simp [hs] at h
      | _ => simp [hs] at h
  | argi s =>
    simp only [resOf1] at h
    cases hs : e.get s with
    | none => simp [hs] at h
    | some sv =>
      simp only [hs] at h
      simp only [finIds, finSlot, finVar, hs] at hn ⊢
      obtain ⟨v, hv, hsv⟩ := hR.slots s sv hs
      obtain ⟨cs, h1, h2, bl, h3, h4, h5⟩ := takeSV_sound hk hn h hsv
      exact ⟨v, bl, ⟨hv, rfl, cs, h1, h2, h3⟩, h4, h5⟩
theorem finishL_sound {Gr : Nat → Prop} {ov : List (Nat × Obj)} (hΓ : TabOk P Γ) (hk : Tk m e.objs ov false Gr) (hR : Rel w0 G0 N [] m e tm) : ∀ (res : List Ty) (fs : List Fyn) (x : den1 res), (finAll e res fs).Nodup → finishL Γ e.objs ov e res fs = some x →
    ∃ l bl, FinAll P m.w Gr tm (parts res x) fs l bl ∧ bl.Nodup ∧ ∀ b ∈ bl, ∃ i ∈ finAll e res fs, blk e.objs m i b
  | [], [], x, _, h => ⟨[], [], ⟨rfl, rfl⟩, List.nodup_nil, fun b hb => by simp at hb⟩
  | [t], [r], x, hn, h => by
    simp only [finishL] at h
    simp only [finAll, List.append_nil] at hn ⊢
    obtain ⟨v, bl, h1, h2, h3⟩ := resOf1_sound hΓ hk hR hn h
    exact ⟨[v], bl, ⟨bl, [], by simp, h1, rfl, rfl⟩, h2, h3⟩
  | t :: u :: l, r :: rs, x, hn, h => by
    simp only [finishL] at h
    have hn' : (finIds e t r ++ finAll e (u :: l) rs).Nodup := hn
    have hnd := List.nodup_append.1 hn'
    cases h1 : resOf1 Γ e.objs ov e t r with
    | none => simp [h1] at h
    | some y =>
      cases h2 : finishL Γ e.objs ov e (u :: l) rs with
      | none => simp [h1, h2] at h
      | some z =>
        simp only [h1, h2, Option.some.injEq] at h
        subst h
        obtain ⟨v, b1, g1, g2, g3⟩ := resOf1_sound hΓ hk hR hnd.1 h1
        obtain ⟨vs, b2, k1, k2, k3⟩ := finishL_sound hΓ hk hR (u :: l) rs z hnd.2.1 h2
        refine ⟨v :: vs, b1 ++ b2, ⟨b1, b2, rfl, g1, k1⟩, List.nodup_append.2 ⟨g2, k2, fun p hp q hq e1 => ?_⟩, fun b hb => ?_⟩
        · subst e1
          obtain ⟨i, hi, q1⟩ := g3 p hp
          obtain ⟨j, hj, q2⟩ := k3 p hq
          exact hnd.2.2 i hi j hj (hk.inj i j p q1 q2)
        · rcases List.mem_append.1 hb with hb | hb
          · obtain ⟨i, hi, q⟩ := g3 b hb
            exact ⟨i, List.mem_append_left _ hi, q⟩
          · obtain ⟨i, hi, q⟩ := k3 b hb
            exact ⟨i, List.mem_append_right _ hi, q⟩
  | [], _ :: _, x, _, h => by simp [finishL] at h
  | [_], [], x, _, h => by simp [finishL] at h
  | [_], _ :: _ :: _, x, _, h => by simp [finishL] at h
  | _ :: _ :: _, [], x, _, h => by simp [finishL] at h
theorem finish_sound (hΓ : TabOk P Γ) (hR : Rel w0 G0 N [] m e tm) {res : List Ty} {fs : List Fyn} {x : den1 res} (h : finish Γ e res fs = some x) :
    ∃ (G' : Nat → Prop) (l : List Value) (bl : List Nat), FinAll P m.w G' tm (parts res x) fs l bl ∧ bl.Nodup ∧ (∀ b, G' b → (G0 b ∨ Mine w0 b) ∧ b < m.w.heap.size) ∧ ∀ b ∈ bl, ¬ G' b ∧ b < m.w.heap.size ∧ Mine w0 b := by
  unfold finish at h
  cases hn : nodupN (finAll e res fs) with
  | false => simp [hn] at h
  | true =>
    simp only [hn] at h
    obtain ⟨hk, _, hout⟩ := rel_split hR (finAll e res fs)
    obtain ⟨l, bl, h1, h2, h3⟩ := finishL_sound hΓ hk hR res fs x (nodupN_nodup _ hn) h
    refine ⟨_, l, bl, h1, h2, fun b hb => ?_, fun b hb => ?_⟩
    · rcases hb with hb | hb
      · exact ⟨hR.ok.subG b hb, hR.ok.liveG b hb⟩
      · exact ⟨.inr (rel_splitG hR _ hb).2, (rel_splitG hR _ hb).1⟩
    · obtain ⟨i, hi, hbi⟩ := h3 b hb
      obtain ⟨o1, _, o3, o4⟩ := hout i b hi hbi
      exact ⟨o1, o3, o4⟩

theorem FinAll.split {w : World} {G : Nat → Prop} : ∀ {ps : List (Sigma Ty.den)} {f1 f2 : List Fyn} {l : List Value} {bl : List Nat}, FinAll P w G tm ps (f1 ++ f2) l bl → ∃ l1 l2 b1 b2, l = l1 ++ l2 ∧ bl = b1 ++ b2 ∧ FinAll P w G tm (ps.take f1.length) f1 l1 b1 ∧ FinAll P w G tm (ps.drop f1.length) f2 l2 b2
  | ps, [], f2, l, bl, h => ⟨[], l, [], bl, rfl, rfl, by simp [FinAll], by simpa using h⟩
  | [], f :: f1, f2, l, bl, h => by simp [FinAll] at h
  | p :: ps, f :: f1, f2, [], bl, h => by simp [FinAll] at h
  | p :: ps, f :: f1, f2, v :: l, bl, ⟨c1, c2, e, h1, h2⟩ => by
    subst e
    obtain ⟨l1, l2, b1, b2, rfl, rfl, k1, k2⟩ := FinAll.split h2
    exact ⟨v :: l1, l2, c1 ++ b1, b2, rfl, by simp, ⟨c1, b1, rfl, h1, k1⟩, k2⟩
theorem FinAll.res {w : World} {G : Nat → Prop} : ∀ {ps : List (Sigma Ty.den)} {rs : List ResultVar} {l : List Value} {bl : List Nat}, FinAll P w G tm ps (rs.map .res) l bl → R2 (fun r v => (resRun tm r).run P w = .ok v w) rs l ∧ ResG w G ps l bl
  | [], [], l, bl, ⟨h1, h2⟩ => by subst h1; subst h2; exact ⟨trivial, rfl, rfl⟩
  | p :: ps, r :: rs, v :: l, bl, ⟨b1, b2, e, ⟨h1, h2⟩, h3⟩ => by
    obtain ⟨k1, k2⟩ := FinAll.res h3
    exact ⟨⟨h1, k1⟩, b1, b2, e, h2, k2⟩
  | [], _ :: _, l, bl, h => by simp [FinAll] at h
  | _ :: _, [], l, bl, h => by simp [FinAll] at h
  | _ :: _, _ :: _, [], bl, h => by simp [FinAll] at h
theorem tysEq_eq : ∀ {a b : List Ty}, tysEq a b = true → a = b
  | [], [], _ => rfl
  | t :: r, u :: s, h => by
    simp only [tysEq, Bool.and_eq_true] at h
    rw [tyEq_eq h.1, tysEq_eq h.2]
  | [], _ :: _, h => by simp [tysEq] at h
  | _ :: _, [], h => by simp [tysEq] at h
theorem FinAll.outs {w : World} {G : Nat → Prop} : ∀ {ats : List AT} {s : Nat} {ps : List (Sigma Ty.den)} {l args : List Value} {bl : List Nat}, FinAll P w G tm ps (argFins s ats) l bl → ps.map (·.1) = outTys ats → (∀ i v, i ∈ ioSlots s ats → args[i - s]? = some v → tm[i]? = some v) → args.length = ats.length → OutsG w G ats args ps bl
  | [], s, ps, l, args, bl, h, ht, hp, hl => by
    cases args with
    | cons => simp at hl
    | nil =>
      cases ps with
      | nil => exact ⟨rfl, h.2⟩
      | cons => simp [argFins, FinAll] at h
  | a :: r, s, ps, l, [], bl, h, ht, hp, hl => by simp at hl
  | a :: r, s, ps, l, u :: args, bl, h, ht, hp, hl => by
    have hl' : args.length = r.length := by simpa using hl
    -- an argument that does not come back
    have skip : isIo a = false → argFins s (a :: r) = argFins (s + 1) r → outTys (a :: r) = outTys r → ioSlots s (a :: r) = ioSlots (s + 1) r → OutsG w G (a :: r) (u :: args) ps bl := by
      intro h0 h1 h2 h3
      simp only [OutsG, h0]
      rw [h1] at h
      rw [h2] at ht
      rw [h3] at hp
      refine FinAll.outs h ht (fun i v hi hv => hp i v hi ?_) hl'
      have hge : ∀ (ats : List AT) (s i : Nat), i ∈ ioSlots s ats → s ≤ i := by
        intro ats
        induction ats with
        | nil => intro s i hi; simp [ioSlots] at hi
        | cons a r ih =>
          intro s i hi
          cases a <;> simp only [ioSlots, List.mem_cons] at hi <;> first
            | (have := ih (s + 1) i hi; omega)
            | (rcases hi with hi | hi <;> first | omega | (have := ih (s + 1) i hi; omega))
      have := hge _ _ _ hi
      rw [show i - s = (i - (s + 1)) + 1 from by omega]
      simpa using hv
    -- one that does
    have take : ∀ (t : Ty) (f : Fyn), isIo a = true → argFins s (a :: r) = f :: argFins (s + 1) r → outTys (a :: r) = t :: outTys r → ioSlots s (a :: r) = s :: ioSlots (s + 1) r →
        (∀ p v b, p.1 = t → FinOk P w G tm p v b f → tm[s]? = some v ∧ OutG w G a p v b) → OutsG w G (a :: r) (u :: args) ps bl := by
      intro t f h0 h1 h2 h3 h4
      simp only [OutsG, h0]
      rw [h1] at h
      rw [h2] at ht
      rw [h3] at hp
      cases ps with
      | nil => simp [FinAll] at h
      | cons p ps =>
        cases l with
        | nil => simp [FinAll] at h
        | cons v l =>
          obtain ⟨b1, b2, e, k1, k2⟩ := h
          simp only [List.map_cons, List.cons.injEq] at ht
          obtain ⟨q1, q2⟩ := h4 p v b1 ht.1 k1
          have := hp s u (by simp) (by simp)
          rw [q1] at this
          obtain rfl := Option.some.inj this
          refine ⟨p, ps, b1, b2, rfl, e, q2, FinAll.outs k2 ht.2 (fun i v hi hv => hp i v (List.mem_cons_of_mem _ hi) ?_) hl'⟩
          have hge : ∀ (ats : List AT) (s i : Nat), i ∈ ioSlots s ats → s ≤ i := by
            intro ats
            induction ats with
            | nil => intro s i hi; simp [ioSlots] at hi
            | cons a r ih =>
              intro s i hi
              cases a <;> simp only [ioSlots, List.mem_cons] at hi <;> first
                | (have := ih (s + 1) i hi; omega)
                | (rcases hi with hi | hi <;> first | omega | (have := ih (s + 1) i hi; omega))
          have := hge _ _ _ hi
          rw [show i - s = (i - (s + 1)) + 1 from by omega]
          simpa using hv
    cases a with
    | var t => exact take t (.argv s) rfl rfl rfl rfl fun p v b hp hf => by subst hp; exact hf
    | io t => exact take t (.argi s) rfl rfl rfl rfl fun p v b hp hf => by subst hp; exact hf
    | _ => exact skip rfl rfl rfl rfl

theorem argsG_length : ∀ {ats : List AT} {x : ATs.den ats} {l : List Value} {w : World} {G H : Nat → Prop} {bl : List Nat}, ArgsG w G H ats x l bl → l.length = ats.length
  | [], x, l, w, G, H, bl, ⟨h, _⟩ => by subst h; rfl
  | a :: r, x, [], w, G, H, bl, h => by simp [ArgsG] at h
  | a :: r, x, v :: l, w, G, H, bl, ⟨_, _, _, _, h⟩ => by simp [argsG_length h]

/-- THE BODY RUNS TO ITS END. -/
theorem fn_core {B : Base} (hΓ : TabOk P Γ) (hΔ : DelOk P B.o Δ) (hD : DrawSound P B.o Γ Δ) {f : Nat} {fn : Func} (hf : P.funcs[f]? = some fn) {ats : List AT} {res : List Ty} (hok : (match fn.body with
      | some b => codeDst B.ps fn.ntmps b && Nat.ble ats.length fn.ntmps
      | none => false) = true) {k : Nat} {x : ATs.den ats} {r : den1 res} (hr : evFn Γ Δ A fn ats res k x = some r) {G H : Nat → Prop} {args : List Value} {bl : List Nat} (hargs : ArgsG B.w G H ats x args bl) (hnd : bl.Nodup)
    (hbl : ∀ b ∈ bl, ¬ G b ∧ ¬ H b ∧ b < B.w.heap.size ∧ Mine B b) (hG : ∀ b, G b → b < B.w.heap.size) (hH : ∀ b, H b → b < B.w.heap.size) (hGH : ∀ b, G b → H b) (hB : Kept B B.w) (hpin : ∀ i v, (i, v) ∈ B.pins → args[i]? = some v) :
    Calls P f args.toArray B.w fun en w' => ∃ (G' : Nat → Prop) (l : List Value) (bl' : List Nat) (tm' : Array Value), en = .returned (asRes (l.take fn.results.toList.length)) ∧ Kept B w' ∧ (∀ i v, (i, v) ∈ B.pins → tm'[i]? = some v) ∧ FinAll P w' G' tm' (parts res r) (finsOf fn.results.toList ats) l bl' ∧ bl'.Nodup ∧
      (∀ b, G' b → (G b ∨ Mine B b) ∧ b < w'.heap.size) ∧ ∀ b ∈ bl', ¬ G' b ∧ b < w'.heap.size ∧ Mine B b := by
  unfold evFn at hr
  cases hb : fn.body with
  | none => simp [hb] at hr
  | some b =>
    rw [hb] at hr hok
    simp only [Bool.and_eq_true] at hr hok
    obtain ⟨hdst, hn⟩ := hok
    have hn := Nat.le_of_ble_eq_true hn
    have hlen := argsG_length hargs
    refine calls_of_wp hf hb ?_
    generalize htm : args.toArray ++ Array.replicate (fn.ntmps - args.toArray.size) undef = tm
    have hsize : tm.size = fn.ntmps := by rw [← htm]; simp; omega
    have hget : ∀ i v, args[i]? = some v → tm[i]? = some v := fun i v hv => by
      rw [← htm]
      have hi : i < args.length := (List.getElem?_eq_some_iff.1 hv).1
      rw [Array.getElem?_append_left (by simpa using hi)]
      simpa using hv
    let m : St := ⟨B.w, G, H, fun _ => 0, fun _ => .bool true, fun _ => False, fun _ => [], fun _ _ => .bool true⟩
    have hok0 : ObjsOk B G m [] := ⟨hB, fun i o hf => by simp [find] at hf, fun i j b hb => by simp [blk, find] at hb, fun i b hb => by simp [blk, find] at hb, hG, hH, fun b hb => .inl hb, hGH⟩
    have hR0 : Rel B G fn.ntmps [] m ⟨[], [], 0⟩ tm := ⟨hok0, fun i o hf => by simp [find] at hf, ⟨hsize, fun i v hi => hget i v (hpin i v hi)⟩, fun t sv hf => by simp [find] at hf⟩
    have hc0 : Cur B G fn.ntmps m ⟨[], [], 0⟩ tm (bl ++ []) := by
      rw [List.append_nil]
      exact ⟨hR0, fun i hi => hi.elim, fun i b hb => by simp [blk, find] at hb, hnd, hbl⟩
    obtain ⟨m1, g1, c1⟩ := startArgs_sound ats x args 0 m ⟨[], [], 0⟩ bl [] hargs (fun i v hv => by rw [Nat.zero_add]; exact hget i v hv) hc0
    have hw1 : m1.w = B.w := g1.w
    rw [← hw1]
    refine wp_mono (code_sound (w0 := B) hΓ hΔ hD b hdst k some _ _ r m1 tm c1.rel c1.fresh hr) ?_
    intro ex a w' hp
    have fini : ∀ (m' : St) (e' : Env), Rel B G fn.ntmps [] m' e' a.tmps → finish Γ e' res (finsOf fn.results.toList ats) = some r → ∃ v, (results fn a.tmps).run P m'.w = .ok v m'.w ∧
        ∃ (G' : Nat → Prop) (l : List Value) (bl' : List Nat) (tm' : Array Value), Ending.returned v = .returned (asRes (l.take fn.results.toList.length)) ∧ Kept B m'.w ∧ (∀ i v, (i, v) ∈ B.pins → tm'[i]? = some v) ∧ FinAll P m'.w G' tm' (parts res r) (finsOf fn.results.toList ats) l bl' ∧ bl'.Nodup ∧
          (∀ b, G' b → (G b ∨ Mine B b) ∧ b < m'.w.heap.size) ∧ ∀ b ∈ bl', ¬ G' b ∧ b < m'.w.heap.size ∧ Mine B b := by
      intro m' e' hR' hfin
      obtain ⟨G', l, bl', q1, q2, q3, q4⟩ := finish_sound hΓ hR' hfin
      obtain ⟨l1, l2, b1, b2, e1, e2, s1, _⟩ := FinAll.split (f1 := fn.results.toList.map .res) (f2 := argFins 0 ats) q1
      obtain ⟨u1, _⟩ := FinAll.res s1
      have hl1 : l.take fn.results.toList.length = l1 := by
        rw [e1, ← show l1.length = fn.results.toList.length from u1.length.symm]
        simp
      exact ⟨asRes l1, results_run fn u1, G', l, bl', a.tmps, by rw [hl1], hR'.ok.base, hR'.tms.2, q1, q2, q3, q4⟩
    cases ex with
    | normal =>
      obtain ⟨m', e', rfl, hd', hR', _, hK⟩ := hp
      exact ⟨hd', fini m' e' hR' hK⟩
    | ret =>
      obtain ⟨m', e', z, rfl, hd', hR', hz, he⟩ := hp
      obtain rfl := Option.some.inj he
      exact ⟨hd', fini m' e' hR' hz⟩
    | exit i =>
      obtain ⟨m', e', _, _, _, _, hK⟩ := hp
      simp at hK
    | _ => exact hp.elim

/-! ### contracts without memory that is handed over -/
theorem args_G {w : World} {G H : Nat → Prop} : ∀ {ats : List AT} {x : ATs.den ats} {l : List Value}, ArgsH w G H ats x l → ArgsG w G H ats x l []
  | [], x, l, h => ⟨h, rfl⟩
  | a :: r, x, [], h => by simp [ArgsH] at h
  | a :: r, x, v :: l, ⟨h1, h2⟩ => by
    refine ⟨[], [], rfl, ?_, args_G h2⟩
    cases a <;> first | exact ⟨rfl, h1⟩ | exact h1.elim
theorem ress_of {w : World} {G : Nat → Prop} : ∀ {ts : List Ty} {x : den1 ts} {l : List Value} {bl : List Nat}, ResG w G (parts ts x) l bl → Ress w G ts x l
  | [], x, l, bl, ⟨h, _⟩ => h
  | [t], x, [v], bl, ⟨b1, b2, e, ⟨cs, h1, h2, h3⟩, h4⟩ => ⟨v, rfl, cs, h2, h1⟩
  | [t], x, [], bl, h => h.elim
  | [t], x, v :: u :: l, bl, ⟨b1, b2, e, _, h4, _⟩ => by simp at h4
  | t :: u :: r, x, [], bl, h => h.elim
  | t :: u :: r, x, v :: l, bl, ⟨b1, b2, e, ⟨cs, h1, h2, h3⟩, h4⟩ => ⟨v, l, rfl, ⟨cs, h2, h1⟩, ress_of h4⟩
theorem hasIo_outs : ∀ {ats : List AT} {s : Nat}, hasIo ats = false → argFins s ats = []
  | [], _, _ => rfl
  | a :: r, s, h => by
    cases a <;> simp only [hasIo, Bool.true_eq_false] at h <;> simp only [argFins] <;> exact hasIo_outs h
/-- THE FUNCTION KEEPS ITS CONTRACT. -/
theorem fn_sound {w0 : World} (hΓ : TabOk P Γ) (hΔ : DelOk P w0 Δ) (hD : ∀ {w : World}, Below w0.heap.size w0 w → DrawSound P w Γ Δ) {f : Nat} {fn : Func} (hf : P.funcs[f]? = some fn) {c : Con} (hok : (match fn.body with
      | some b => codeDst [] fn.ntmps b && Nat.ble c.args.length fn.ntmps
      | none => false) = true) (heq : ∀ k x, c.fn k x = evFn Γ Δ A fn c.args c.res k x) (hno : hasIo c.args = false) : ConOk P w0 f c := by
  intro k x r w G args hbw hG hr hargs
  rw [heq] at hr
  let B : Base := ⟨w, w, fun _ => False, []⟩
  refine Calls.mono (fn_core (B := B) (G := G) (H := fun b => b < w.heap.size) hΓ (hΔ.later hbw) (hD hbw) hf hok hr (args_G hargs) List.nodup_nil (fun b hb => by simp at hb) hG (fun _ h => h) hG (.refl B (Below.refl _ _) (fun _ h => h.elim)) (fun i v hi => by simp [B] at hi)) ?_
  rintro en w' ⟨G', l, bl', tm', rfl, hk, _, hfin, _, hG', _⟩
  have hfs : finsOf fn.results.toList c.args = fn.results.toList.map .res := by unfold finsOf; rw [hasIo_outs hno, List.append_nil]
  rw [hfs] at hfin
  obtain ⟨u1, u2⟩ := FinAll.res hfin
  have hl : l.take fn.results.toList.length = l := by rw [u1.length]; simp
  rw [hl]
  refine ⟨l, rfl, hk.old, ?_⟩
  exact ress_of (ResG.grow (fun b hb => by
    obtain ⟨h1, h2⟩ := hG' b hb
    rcases h1 with h | h | h
    · exact .inl h
    · exact .inr ⟨h, h2⟩
    · exact h.elim) u2)

theorem parts_length : ∀ {ts : List Ty} {y : den1 ts}, (parts ts y).map (·.1) = ts
  | [], _ => rfl
  | [t], _ => rfl
  | t :: u :: r, x => by
    show t :: (parts (u :: r) x.2).map (·.1) = t :: u :: r
    rw [parts_length]
theorem argFins_length : ∀ {ats : List AT} {s : Nat}, (argFins s ats).length = nIo ats
  | [], _ => rfl
  | a :: r, s => by cases a <;> simp [argFins, nIo, isIo, argFins_length (ats := r) (s := s + 1)]
theorem FinAll.length {w : World} {G : Nat → Prop} : ∀ {ps : List (Sigma Ty.den)} {fs : List Fyn} {l : List Value} {bl : List Nat}, FinAll P w G tm ps fs l bl → ps.length = fs.length
  | [], [], _, _, _ => rfl
  | _ :: _, _ :: _, _ :: _, _, ⟨_, _, _, _, h⟩ => by simp [FinAll.length h]
  | _ :: _, _ :: _, [], _, h => by simp [FinAll] at h
  | [], _ :: _, _, _, h => by simp [FinAll] at h
  | _ :: _, [], _, _, h => by simp [FinAll] at h
/-- THE FUNCTION KEEPS ITS CONTRACT, with memory that is handed over. -/
theorem gen_sound {w0 : World} (hΓ : TabOk P Γ) (hΔ : DelOk P w0 Δ) (hD : ∀ {w : World}, Below w0.heap.size w0 w → DrawSound P w Γ Δ) {f : Nat} {fn : Func} (hf : P.funcs[f]? = some fn) {c : Con} (hok : (match fn.body with
      | some b => codeDst (ioSlots 0 c.args) fn.ntmps b && Nat.ble c.args.length fn.ntmps
      | none => false) = true) (heq : ∀ k x, c.fn k x = evFn Γ Δ A fn c.args c.res k x) (hty : tysEq (dropN c.nres c.res) (outTys c.args) = true) : GenCon P w0 f c := by
  intro k x r w G H args bl hbw hG hH hGH hargs hnd hbl hr
  rw [heq] at hr
  have hlen := argsG_length hargs
  let B : Base := ⟨w, w0, fun b => b ∈ bl, (ioSlots 0 c.args).filterMap fun i => (args[i]?).map fun v => (i, v)⟩
  have hps : ∀ i, i ∈ B.ps → i ∈ ioSlots 0 c.args := fun i hi => by
    obtain ⟨p, hp, rfl⟩ := List.mem_map.1 hi
    obtain ⟨j, hj, he⟩ := List.mem_filterMap.1 hp
    cases ha : args[j]? with
    | none => rw [ha] at he; simp at he
    | some v =>
      rw [ha] at he
      simp only [Option.map_some, Option.some.injEq] at he
      subst he
      exact hj
  have hpin : ∀ i v, (i, v) ∈ B.pins → args[i]? = some v := fun i v hi => by
    obtain ⟨j, hj, he⟩ := List.mem_filterMap.1 hi
    cases ha : args[j]? with
    | none => rw [ha] at he; simp at he
    | some u =>
      rw [ha] at he
      simp only [Option.map_some, Option.some.injEq, Prod.mk.injEq] at he
      obtain ⟨rfl, rfl⟩ := he
      exact ha
  have hpin2 : ∀ i v, i ∈ ioSlots 0 c.args → args[i]? = some v → (i, v) ∈ B.pins := fun i v hi hv => List.mem_filterMap.2 ⟨i, hi, by rw [hv]; rfl⟩
  have hok' : (match fn.body with
      | some b => codeDst B.ps fn.ntmps b && Nat.ble c.args.length fn.ntmps
      | none => false) = true := by
    cases hb : fn.body with
    | none => rw [hb] at hok; simp at hok
    | some b =>
      rw [hb] at hok
      simp only [Bool.and_eq_true] at hok ⊢
      exact ⟨codeDst_sub hps b hok.1, hok.2⟩
  refine Calls.mono (fn_core (B := B) (G := G) (H := H) hΓ hΔ (hD (Below.refl _ _)) hf hok' hr hargs hnd (fun b hb => ⟨(hbl b hb).1, (hbl b hb).2.1, (hbl b hb).2.2.1, .inr hb⟩) hG hH hGH (.refl B hbw fun b hb => (hbl b hb).2.2.2) hpin) ?_
  rintro en w' ⟨G', l, bl', tm', rfl, hk, hpins, hfin, hnd', hG', hbl'⟩
  have hfl := hfin.length
  obtain ⟨l1, l2, b1, b2, rfl, rfl, s1, s2⟩ := FinAll.split (f1 := fn.results.toList.map .res) (f2 := argFins 0 c.args) hfin
  obtain ⟨u1, u2⟩ := FinAll.res s1
  have hl1 : (l1 ++ l2).take fn.results.toList.length = l1 := by
    rw [show fn.results.toList.length = l1.length from u1.length]
    simp
  have hn : c.nres = fn.results.toList.length := by
    have h1 : (parts c.res r).length = c.res.length := by
      have := congrArg List.length (parts_length (y := r))
      simpa using this
    rw [h1] at hfl
    unfold finsOf at hfl
    rw [List.length_append, List.length_map, argFins_length] at hfl
    unfold Con.nres
    rw [lenN_eq]
    omega
  rw [hl1]
  rw [List.length_map] at s2 u2
  refine ⟨l1, G', b1, b2, rfl, ⟨hk.os, hk.tape, hk.output, hk.size, hk.block, hk.old, hk.oldM, hk.oldS⟩, fun b hb => ⟨(hG' b hb).1, (hG' b hb).2⟩, ?_, ?_, hnd', fun b hb => ⟨(hbl' b hb).1, (hbl' b hb).2.1, (hbl' b hb).2.2⟩⟩
  · rw [takeN_eq, hn]; exact u2
  · rw [dropN_eq, hn]
    have hty' := tysEq_eq hty
    rw [dropN_eq, hn] at hty'
    refine FinAll.outs s2 ?_ (fun i v hi hv => hpins i v (hpin2 i v hi (by simpa using hv))) hlen
    rw [← hty', List.map_drop, parts_length]
end
end Go.Ev
end

section
/- What a claim's own texts use. -/
set_option linter.unusedSimpArgs false
set_option linter.unusedVariables false
namespace Go.Ev

section
variable {P : Program} {Γ : Tab} {Δ : List (Nat × Con)}
/-- a function's contract, of either kind -/
def Keeps (P : Program) (w0 : World) (f : Nat) (c : Con) : Prop := (c.gen = false → ConOk P w0 f c) ∧ (c.gen = true → GenCon P w0 f c)
theorem Keeps.con {w0 : World} {f : Nat} {c : Con} (h : ConOk P w0 f c) (hg : c.gen = false) : Keeps P w0 f c := ⟨fun _ => h, fun q => (by rw [hg] at q; cases q)⟩
theorem Keeps.gn {w0 : World} {f : Nat} {c : Con} (h : GenCon P w0 f c) (hg : c.gen = true) : Keeps P w0 f c := ⟨fun q => (by rw [hg] at q; cases q), fun _ => h⟩
theorem DelOk.nil {w0 : World} : DelOk P w0 [] := fun f c h => by simp at h
theorem DelOk.cons {w0 : World} {f : Nat} {c : Con} (h : Keeps P w0 f c) (he : Enters' P f) (hd : DelOk P w0 Δ) (hs : SrtCon P f c := by exact True.intro) : DelOk P w0 ((f, c) :: Δ) := by
  intro g d hm
  rcases List.mem_cons.1 hm with e | e
  · cases e; exact ⟨h.1, he, hs, h.2⟩
  · exact hd g d e
theorem enters' {f : Nat} {fn : Func} (hf : P.funcs[f]? = some fn) (h : (!(fn.name == "runtime.NumGoroutine") && fn.body.isSome) = true) : Enters' P f := by
  intro args w
  simp only [Bool.and_eq_true, Bool.not_eq_true'] at h
  obtain ⟨h1, h2⟩ := h
  have h3 : fn.name ≠ "runtime.NumGoroutine" := by simpa using h1
  cases hb : fn.body with
  | none => rw [hb] at h2; simp at h2
  | some b => simp [callFunc, hf, h3, hb, mark]
theorem draws_of {w0 : World} (hΓ : TabOk P Γ) (hΔ : DelOk P w0 Δ) (hm : P.follows .mixedOrders = true) {w : World} (hb : Go.RowKit.Below w0.heap.size w0 w) : DrawSound P w Γ Δ := draw_sound hΓ (hΔ.later hb) hm
theorem tab_of (h : tabOk P Γ Γ = true) : TabOk P Γ := tabOk_ok h

/-! ### what the equations are made of -/
theorem br_true {ρ : Type} (x y : Option ρ) : br true x y = x := rfl
theorem br_false {ρ : Type} (x y : Option ρ) : br false x y = y := rfl
theorem bnd_none {α ρ : Type} (f : α → Option ρ) : bnd none f = none := rfl
theorem bnd_some' {α ρ : Type} (y : α) (f : α → Option ρ) : bnd (some y) f = f y := rfl
theorem chk_true {ρ : Type} (x : Option ρ) : chk true x = x := rfl
theorem onSum_inl {α ρ σ : Type} (y : α) (f : α → Option σ) (g : ρ → Option σ) : onSum (.inl y : α ⊕ ρ) f g = f y := rfl
theorem onSum_inr {α ρ σ : Type} (z : ρ) (f : α → Option σ) (g : ρ → Option σ) : onSum (.inr z : α ⊕ ρ) f g = g z := rfl
end
end Go.Ev
end

section
/- Stable order: the library's steps on an array, as lists. -/
set_option linter.unusedSimpArgs false
set_option linter.unusedVariables false
set_option linter.unusedSectionVars false
namespace Go.Ev
open Go.Sort (swp)
section
variable {α : Type} [Inhabited α]
theorem arr_get {d : Array α} {P Q : List α} {x : α} (h : d.toList = P ++ x :: Q) : d[P.length]! = x := by
  have : d.toList[P.length]? = some x := by rw [h]; simp
  have hs : P.length < d.size := by
    rw [← Array.length_toList, h]; simp
  rw [getElem!_pos d P.length hs]
  rw [← Array.getElem_toList] 
  rw [List.getElem?_eq_getElem (by simpa using hs)] at this
  exact Option.some.inj this
theorem swp_list {d : Array α} {P M Q : List α} {x y : α} (h : d.toList = P ++ x :: (M ++ y :: Q)) {i j : Nat} (hi : i = P.length) (hj : j = P.length + 1 + M.length) : (swp d i j).toList = P ++ y :: (M ++ x :: Q) := by
  subst hi
  have hx : d[P.length]! = x := arr_get h
  have h' : d.toList = (P ++ x :: M) ++ y :: Q := by rw [h]; simp
  have hy : d[j]! = y := by
    have := arr_get h'
    rw [hj]
    simpa [Nat.add_assoc, Nat.add_comm 1] using this
  unfold swp
  rw [hx, hy]
  simp only [Array.toList_setIfInBounds]
  rw [h, List.set_append_right _ _ (Nat.le_refl _)]
  simp only [Nat.sub_self, List.set_cons_zero]
  rw [List.set_append_right _ _ (by omega), show j - P.length = M.length + 1 by omega]
  simp only [List.set_cons_succ]
  rw [List.set_append_right _ _ (Nat.le_refl _)]
  simp
theorem swp_list' {d : Array α} {P M Q : List α} {x y : α} (h : d.toList = P ++ x :: (M ++ y :: Q)) {i j : Nat} (hi : i = P.length) (hj : j = P.length + 1 + M.length) : (swp d j i).toList = P ++ y :: (M ++ x :: Q) := by
  subst hi
  have hx : d[P.length]! = x := arr_get h
  have h' : d.toList = (P ++ x :: M) ++ y :: Q := by rw [h]; simp
  have hy : d[j]! = y := by
    have := arr_get h'
    rw [hj]
    simpa [Nat.add_assoc, Nat.add_comm 1] using this
  unfold swp
  rw [hx, hy]
  simp only [Array.toList_setIfInBounds]
  rw [h, List.set_append_right _ _ (by omega), show j - P.length = M.length + 1 by omega]
  simp only [List.set_cons_succ]
  rw [List.set_append_right _ _ (Nat.le_refl _), List.set_append_right _ _ (Nat.le_refl _)]
  simp
/-- swapRange_func: k swaps left, from i on -/
def swr (a b : Nat) : Nat → Nat → Array α → Array α
  | 0, _, d => d
  | k + 1, i, d => swr a b k (i + 1) (swp d (a + i) (b + i))
theorem swr_size (a b : Nat) : ∀ (k i : Nat) (d : Array α), (swr a b k i d).size = d.size
  | 0, _, _ => rfl
  | k + 1, i, d => by rw [swr, swr_size a b k]; simp [swp]
theorem swr_list (a b : Nat) : ∀ (k i : Nat) (d : Array α) (P X M Y Q : List α), d.toList = P ++ (X ++ (M ++ (Y ++ Q))) → X.length = k → Y.length = k → a + i = P.length → b + i = P.length + X.length + M.length →
    (swr a b k i d).toList = P ++ (Y ++ (M ++ (X ++ Q)))
  | 0, i, d, P, X, M, Y, Q, h, hx, hy, _, _ => by
    have := List.eq_nil_of_length_eq_zero hx; subst this
    have := List.eq_nil_of_length_eq_zero hy; subst this
    exact h
  | k + 1, i, d, P, x :: X, M, y :: Y, Q, h, hx, hy, ha, hb => by
    simp only [List.length_cons, Nat.add_right_cancel_iff] at hx hy hb
    have h0 : d.toList = P ++ x :: ((X ++ M) ++ y :: (Y ++ Q)) := by rw [h]; simp
    have h1 := swp_list h0 (i := a + i) (j := b + i) ha (by simp; omega)
    rw [swr]
    have := swr_list a b k (i + 1) (swp d (a + i) (b + i)) (P ++ [y]) X (M ++ [x]) Y Q (by rw [h1]; simp) hx hy (by simp; omega) (by simp; omega)
    rw [this]; simp
  | k + 1, i, d, P, [], M, Y, Q, h, hx, hy, _, _ => by simp at hx
  | k + 1, i, d, P, x :: X, M, [], Q, h, hx, hy, _, _ => by simp at hy
/-- rotate_func: what it comes to -/
def rotA (d : Array α) (a m b : Nat) : Array α := (d.toList.take a ++ ((d.toList.take b).drop m ++ ((d.toList.take m).drop a ++ d.toList.drop b))).toArray
theorem rotA_list {d : Array α} {P X Y Q : List α} (h : d.toList = P ++ (X ++ (Y ++ Q))) {a m b : Nat} (ha : a = P.length) (hm : m = P.length + X.length) (hb : b = P.length + X.length + Y.length) : (rotA d a m b).toList = P ++ (Y ++ (X ++ Q)) := by
  subst ha; subst hm; subst hb
  simp only [rotA, h]
  have e1 : (P ++ (X ++ (Y ++ Q))).take P.length = P := by simp
  have e2 : (P ++ (X ++ (Y ++ Q))).take (P.length + X.length) = P ++ X := by
    rw [← List.append_assoc P X, List.take_append_of_le_length (by simp), List.take_of_length_le (by simp)]
  have e3 : (P ++ (X ++ (Y ++ Q))).take (P.length + X.length + Y.length) = (P ++ X) ++ Y := by
    rw [show P ++ (X ++ (Y ++ Q)) = ((P ++ X) ++ Y) ++ Q by simp, List.take_append_of_le_length (by simp; omega), List.take_of_length_le (by simp; omega)]
  have e4 : (P ++ (X ++ (Y ++ Q))).drop (P.length + X.length + Y.length) = Q := by
    rw [show P ++ (X ++ (Y ++ Q)) = ((P ++ X) ++ Y) ++ Q by simp, List.drop_append_of_le_length (by simp; omega), List.drop_of_length_le (by simp; omega)]
    simp
  rw [e1, e2, e3, e4]
  have e5 : ((P ++ X) ++ Y).drop (P.length + X.length) = Y := by
    rw [List.drop_append_of_le_length (by simp), List.drop_of_length_le (by simp)]; simp
  rw [e5]
  simp
theorem cut4 (l : List α) {a m b : Nat} (h1 : a ≤ m) (h2 : m ≤ b) (h3 : b ≤ l.length) : ∃ P X Y Q, l = P ++ (X ++ (Y ++ Q)) ∧ a = P.length ∧ m = P.length + X.length ∧ b = P.length + X.length + Y.length := by
  refine ⟨l.take a, (l.drop a).take (m - a), (l.drop m).take (b - m), l.drop b, ?_, by simp; omega, by simp; omega, by simp; omega⟩
  have e1 : (l.drop m).take (b - m) ++ l.drop b = l.drop m := by
    rw [show l.drop b = (l.drop m).drop (b - m) by rw [List.drop_drop]; congr 1; omega]
    exact List.take_append_drop _ _
  have e2 : (l.drop a).take (m - a) ++ l.drop m = l.drop a := by
    rw [show l.drop m = (l.drop a).drop (m - a) by rw [List.drop_drop]; congr 1; omega]
    exact List.take_append_drop _ _
  rw [e1, e2, List.take_append_drop]
theorem arr_eq {a b : Array α} (h : a.toList = b.toList) : a = b := Array.toList_inj.1 h
theorem rotA_size {d : Array α} {a m b : Nat} (h1 : a ≤ m) (h2 : m ≤ b) (h3 : b ≤ d.size) : (rotA d a m b).size = d.size := by
  obtain ⟨P, X, Y, Q, h, ha, hm, hb⟩ := cut4 d.toList h1 h2 (by simpa using h3)
  rw [← Array.length_toList, rotA_list h ha hm hb, ← Array.length_toList, h]
  simp; omega
/-- rotate_func's rounds -/
theorem rot_more {d : Array α} {m i j : Nat} (hij : j < i) (hi : i ≤ m) (hj : m + j ≤ d.size) : rotA (swr (m - i) m j 0 d) (m - (i - j)) m (m + j) = rotA d (m - i) m (m + j) := by
  obtain ⟨P, X, Y, Q, h, ha, hm, hb⟩ := cut4 d.toList (a := m - i) (m := m) (b := m + j) (by omega) (by omega) (by simpa using hj)
  have hX : X = X.take j ++ X.drop j := (List.take_append_drop j X).symm
  have l1 : (X.take j).length = j := by simp; omega
  have l2 : (X.drop j).length = i - j := by simp; omega
  generalize X.take j = X1 at hX l1
  generalize X.drop j = X2 at hX l2
  subst hX
  simp only [List.length_append] at hm hb
  apply arr_eq
  rw [rotA_list h ha (by simp; omega) (by simp; omega)]
  have hs := swr_list (m - i) m j 0 d P X1 X2 Y Q (by rw [h]; simp) l1 (by omega) (by omega) (by omega)
  rw [rotA_list (P := P ++ Y) (X := X2) (Y := X1) (Q := Q) (by rw [hs]; simp) (by simp; omega) (by simp; omega) (by simp; omega)]
  simp
theorem rot_less {d : Array α} {m i j : Nat} (hij : i < j) (hi : i ≤ m) (hj : m + j ≤ d.size) : rotA (swr (m - i) (m + j - i) i 0 d) (m - i) m (m + (j - i)) = rotA d (m - i) m (m + j) := by
  obtain ⟨P, X, Y, Q, h, ha, hm, hb⟩ := cut4 d.toList (a := m - i) (m := m) (b := m + j) (by omega) (by omega) (by simpa using hj)
  have hY : Y = Y.take (j - i) ++ Y.drop (j - i) := (List.take_append_drop _ Y).symm
  have l1 : (Y.take (j - i)).length = j - i := by simp; omega
  have l2 : (Y.drop (j - i)).length = i := by simp; omega
  generalize Y.take (j - i) = Y1 at hY l1
  generalize Y.drop (j - i) = Y2 at hY l2
  subst hY
  simp only [List.length_append] at hb
  apply arr_eq
  rw [rotA_list h ha (by omega) (by simp; omega)]
  have hs := swr_list (m - i) (m + j - i) i 0 d P X Y1 Y2 Q (by rw [h]; simp) (by omega) l2 (by omega) (by omega)
  rw [rotA_list (P := P) (X := Y2) (Y := Y1) (Q := X ++ Q) (by rw [hs]) (by omega) (by omega) (by omega)]
  simp
theorem rot_end {d : Array α} {m i : Nat} (hi : i ≤ m) (hj : m + i ≤ d.size) : swr (m - i) m i 0 d = rotA d (m - i) m (m + i) := by
  obtain ⟨P, X, Y, Q, h, ha, hm, hb⟩ := cut4 d.toList (a := m - i) (m := m) (b := m + i) (by omega) (by omega) (by simpa using hj)
  apply arr_eq
  rw [rotA_list h ha hm hb]
  have hs := swr_list (m - i) m i 0 d P X [] Y Q (by rw [h]; simp) (by omega) (by omega) (by omega) (by simp; omega)
  rw [hs]; simp
/-- symMerge_func: what it comes to -/
def mrgA (lt : α → α → Bool) (d : Array α) (a m b : Nat) : Array α := (d.toList.take a ++ (mrg lt ((d.toList.take m).drop a) ((d.toList.take b).drop m) ++ d.toList.drop b)).toArray
theorem cuts {d : Array α} {P X Y Q : List α} (h : d.toList = P ++ (X ++ (Y ++ Q))) {a m b : Nat} (ha : a = P.length) (hm : m = P.length + X.length) (hb : b = P.length + X.length + Y.length) :
    d.toList.take a = P ∧ (d.toList.take m).drop a = X ∧ (d.toList.take b).drop m = Y ∧ d.toList.drop b = Q := by
  subst ha; subst hm; subst hb
  have e2 : (P ++ (X ++ (Y ++ Q))).take (P.length + X.length) = P ++ X := by
    rw [← List.append_assoc P X, List.take_append_of_le_length (by simp), List.take_of_length_le (by simp)]
  have e3 : (P ++ (X ++ (Y ++ Q))).take (P.length + X.length + Y.length) = (P ++ X) ++ Y := by
    rw [show P ++ (X ++ (Y ++ Q)) = ((P ++ X) ++ Y) ++ Q by simp, List.take_append_of_le_length (by simp; omega), List.take_of_length_le (by simp; omega)]
  have e4 : (P ++ (X ++ (Y ++ Q))).drop (P.length + X.length + Y.length) = Q := by
    rw [show P ++ (X ++ (Y ++ Q)) = ((P ++ X) ++ Y) ++ Q by simp, List.drop_append_of_le_length (by simp; omega), List.drop_of_length_le (by simp; omega)]
    simp
  rw [h, e2, e3, e4]
  refine ⟨by simp, by simp, ?_, rfl⟩
  rw [List.drop_append_of_le_length (by simp), List.drop_of_length_le (by simp)]; simp
theorem mrgA_list (lt : α → α → Bool) {d : Array α} {P X Y Q : List α} (h : d.toList = P ++ (X ++ (Y ++ Q))) {a m b : Nat} (ha : a = P.length) (hm : m = P.length + X.length) (hb : b = P.length + X.length + Y.length) : (mrgA lt d a m b).toList = P ++ (mrg lt X Y ++ Q) := by
  obtain ⟨e1, e2, e3, e4⟩ := cuts h ha hm hb
  simp only [mrgA, e1, e2, e3, e4]
theorem mrgA_size (lt : α → α → Bool) {d : Array α} {a m b : Nat} (h1 : a ≤ m) (h2 : m ≤ b) (h3 : b ≤ d.size) : (mrgA lt d a m b).size = d.size := by
  obtain ⟨P, X, Y, Q, h, ha, hm, hb⟩ := cut4 d.toList h1 h2 (by simpa using h3)
  rw [← Array.length_toList, mrgA_list lt h ha hm hb, ← Array.length_toList, h]
  simp [mrg_length]; omega
end
end Go.Ev
end

section
/- Stable order: the library's merge in place. -/
set_option linter.unusedSimpArgs false
set_option linter.unusedVariables false
set_option linter.unusedSectionVars false
namespace Go.Ev
open Go.Sort (swp)
section
variable {α : Type} [Inhabited α] {lt : α → α → Bool}
abbrev seg (d : Array α) (a m : Nat) : List α := (d.toList.take m).drop a
theorem seg_mem {d : Array α} {a m : Nat} (hm : m ≤ d.size) {x : α} : x ∈ seg d a m ↔ ∃ i, a ≤ i ∧ i < m ∧ d[i]! = x := by
  have hg : ∀ i (hi : i < d.size), d[i]! = d.toList[i]'(by simpa using hi) := fun i hi => by rw [getElem!_pos d i hi, Array.getElem_toList]
  constructor
  · intro h
    obtain ⟨j, hj, e⟩ := List.mem_iff_getElem.1 h
    simp only [List.length_drop, List.length_take, Array.length_toList] at hj
    refine ⟨a + j, by omega, by omega, ?_⟩
    rw [hg _ (by omega), ← e]
    simp
  · rintro ⟨i, h1, h2, rfl⟩
    rw [hg _ (by omega)]
    refine List.mem_iff_getElem.2 ⟨i - a, by simp; omega, ?_⟩
    simp [show a + (i - a) = i by omega]
theorem seg_srt {d : Array α} {a m : Nat} (hm : m ≤ d.size) : Srt lt (seg d a m) ↔ ∀ i j, a ≤ i → i < j → j < m → lt d[j]! d[i]! = false := by
  have hg : ∀ i (hi : i < d.size), d[i]! = d.toList[i]'(by simpa using hi) := fun i hi => by rw [getElem!_pos d i hi, Array.getElem_toList]
  unfold Srt
  rw [List.pairwise_iff_getElem]
  constructor
  · intro h i j h1 h2 h3
    have := h (i - a) (j - a) (by simp; omega) (by simp; omega) (by omega)
    simp only [List.getElem_drop, List.getElem_take] at this
    rw [hg i (by omega), hg j (by omega)]
    simpa [show a + (i - a) = i by omega, show a + (j - a) = j by omega] using this
  · intro h i j hi hj hij
    simp only [List.length_drop, List.length_take, Array.length_toList] at hi hj
    have := h (a + i) (a + j) (by omega) (by omega) (by omega)
    rw [hg _ (by omega), hg _ (by omega)] at this
    simpa using this
/-- k swaps, upwards -/
def bubU : Nat → Nat → Array α → Array α
  | 0, _, d => d
  | c + 1, k, d => bubU c (k + 1) (swp d k (k + 1))
def bubD : Nat → Nat → Array α → Array α
  | 0, _, d => d
  | c + 1, k, d => bubD c (k - 1) (swp d k (k - 1))
theorem bubU_size : ∀ (c k : Nat) (d : Array α), (bubU c k d).size = d.size
  | 0, _, _ => rfl
  | c + 1, k, d => by rw [bubU, bubU_size c]; simp [swp]
theorem bubD_size : ∀ (c k : Nat) (d : Array α), (bubD c k d).size = d.size
  | 0, _, _ => rfl
  | c + 1, k, d => by rw [bubD, bubD_size c]; simp [swp]
theorem bubU_list : ∀ (c k : Nat) (d : Array α) (P Y R : List α) (x : α), d.toList = P ++ x :: (Y ++ R) → k = P.length → Y.length = c → (bubU c k d).toList = P ++ (Y ++ x :: R)
  | 0, k, d, P, Y, R, x, h, hk, hy => by
    have := List.eq_nil_of_length_eq_zero hy; subst this
    exact h
  | c + 1, k, d, P, y :: Y, R, x, h, hk, hy => by
    have h1 := swp_list (M := []) (by simpa using h) hk (j := k + 1) (by simp; omega)
    rw [bubU, bubU_list c (k + 1) _ (P ++ [y]) Y R x (by rw [h1]; simp) (by simp; omega) (by simpa using hy)]
    simp
  | c + 1, k, d, P, [], R, x, h, hk, hy => by simp at hy
theorem bubD_list : ∀ (c k : Nat) (d : Array α) (P X R : List α) (y : α), d.toList = P ++ (X ++ y :: R) → k = P.length + X.length → X.length = c → (bubD c k d).toList = P ++ y :: (X ++ R)
  | 0, k, d, P, X, R, y, h, hk, hx => by
    have := List.eq_nil_of_length_eq_zero hx; subst this
    exact h
  | c + 1, k, d, P, X, R, y, h, hk, hx => by
    obtain ⟨X', x, rfl⟩ : ∃ X' x, X = X' ++ [x] := ⟨X.dropLast, X.getLast (by intro e; simp [e] at hx), (List.dropLast_concat_getLast _).symm⟩
    simp only [List.length_append, List.length_cons, List.length_nil, Nat.zero_add] at hk hx
    have h0 : d.toList = (P ++ X') ++ x :: ([] ++ y :: R) := by rw [h]; simp
    have h1 := swp_list' h0 (i := k - 1) (j := k) (by simp; omega) (by simp; omega)
    rw [bubD, bubD_list c (k - 1) _ P X' (x :: R) y (by rw [h1]; simp) (by omega) (by omega)]
    simp
/-- one element ahead of a sorted range -/
theorem sym_one {d : Array α} (h : Weak lt) {a b i : Nat} (h1 : a + 1 ≤ i) (h2 : i ≤ b) (h3 : b ≤ d.size) (hl : ∀ k, a + 1 ≤ k → k < i → lt d[k]! d[a]! = true) (hr : ∀ k, i ≤ k → k < b → lt d[k]! d[a]! = false) : bubU (i - 1 - a) a d = mrgA lt d a (a + 1) b := by
  obtain ⟨P, X, Y, Q, hd, ha, hm, hb⟩ := cut4 d.toList (a := a) (m := a + 1) (b := b) (by omega) (by omega) (by simpa using h3)
  obtain ⟨x, rfl⟩ : ∃ x, X = [x] := by
    match X with
    | [x] => exact ⟨x, rfl⟩
    | [] => simp at hm; omega
    | _ :: _ :: _ => simp at hm; omega
  simp only [List.length_cons, List.length_nil] at hm hb
  have hc := cuts hd ha (m := a + 1) (b := b) (by simp; omega) (by simp; omega)
  have hxa : d[a]! = x := by rw [ha]; exact arr_get (by rw [hd]; rfl)
  have hY : Y = Y.take (i - (a + 1)) ++ Y.drop (i - (a + 1)) := (List.take_append_drop _ Y).symm
  have e1 : ∀ y ∈ Y.take (i - (a + 1)), lt y x = true := fun y hy => by
    have hs : Y.take (i - (a + 1)) = seg d (a + 1) i := by
      rw [← hc.2.2.1]
      show ((d.toList.take b).drop (a + 1)).take (i - (a + 1)) = _
      rw [← List.drop_take, List.take_take, Nat.min_eq_left h2]
    rw [hs] at hy
    obtain ⟨k, g1, g2, rfl⟩ := (seg_mem (by omega)).1 hy
    rw [← hxa]; exact hl k g1 g2
  have e2 : ∀ y ∈ Y.drop (i - (a + 1)), lt y x = false := fun y hy => by
    have hs : Y.drop (i - (a + 1)) = seg d i b := by
      rw [← hc.2.2.1, List.drop_drop]
      congr 1; omega
    rw [hs] at hy
    obtain ⟨k, g1, g2, rfl⟩ := (seg_mem h3).1 hy
    rw [← hxa]; exact hr k g1 g2
  have l1 : (Y.take (i - (a + 1))).length = i - (a + 1) := by simp; omega
  generalize Y.take (i - (a + 1)) = Y1 at hY e1 l1
  generalize Y.drop (i - (a + 1)) = Y2 at hY e2
  subst hY
  apply arr_eq
  rw [mrgA_list lt hd ha (by simp; omega) (by simp at hb ⊢; omega), one_mrg h x Y1 Y2 e1 e2]
  rw [bubU_list (i - 1 - a) a d P Y1 (Y2 ++ Q) x (by rw [hd]; simp) ha (by omega)]
  simp
/-- one element behind a sorted range -/
theorem sym_last {d : Array α} (h : Weak lt) {a m i : Nat} (h1 : a ≤ i) (h2 : i ≤ m) (h3 : m + 1 ≤ d.size) (hl : ∀ k, a ≤ k → k < i → lt d[m]! d[k]! = false) (hr : ∀ k, i ≤ k → k < m → lt d[m]! d[k]! = true) : bubD (m - i) m d = mrgA lt d a m (m + 1) := by
  obtain ⟨P, X, Y, Q, hd, ha, hm, hb⟩ := cut4 d.toList (a := a) (m := m) (b := m + 1) (by omega) (by omega) (by simpa using h3)
  obtain ⟨y, rfl⟩ : ∃ y, Y = [y] := by
    match Y with
    | [y] => exact ⟨y, rfl⟩
    | [] => simp at hb; omega
    | _ :: _ :: _ => simp at hb; omega
  have hc := cuts hd ha hm hb
  have hym : d[m]! = y := by
    have : d.toList = (P ++ X) ++ y :: Q := by rw [hd]; simp
    have := arr_get this
    rwa [show (P ++ X).length = m by simp; omega] at this
  have hX : X = X.take (i - a) ++ X.drop (i - a) := (List.take_append_drop _ X).symm
  have e1 : ∀ x ∈ X.take (i - a), lt y x = false := fun x hx => by
    have hs : X.take (i - a) = seg d a i := by
      rw [← hc.2.1, ← List.drop_take, List.take_take, Nat.min_eq_left h2]
    rw [hs] at hx
    obtain ⟨k, g1, g2, rfl⟩ := (seg_mem (by omega)).1 hx
    rw [← hym]; exact hl k g1 g2
  have e2 : ∀ x ∈ X.drop (i - a), lt y x = true := fun x hx => by
    have hs : X.drop (i - a) = seg d i m := by
      rw [← hc.2.1, List.drop_drop]
      congr 1; omega
    rw [hs] at hx
    obtain ⟨k, g1, g2, rfl⟩ := (seg_mem (by omega)).1 hx
    rw [← hym]; exact hr k g1 g2
  have l1 : (X.drop (i - a)).length = m - i := by simp; omega
  generalize X.take (i - a) = X1 at hX e1
  generalize X.drop (i - a) = X2 at hX e2 l1
  subst hX
  apply arr_eq
  simp only [List.length_append] at hm
  rw [mrgA_list lt hd ha (by simp; omega) hb, mrg_one h y X1 X2 e1 e2]
  rw [bubD_list (m - i) m d (P ++ X1) X2 Q y (by rw [hd]; simp) (by simp; omega) l1]
  simp
/-- the halves -/
theorem sym_halves {d : Array α} (h : Weak lt) {a m b s e mid : Nat} (h1 : a ≤ s) (h2 : s ≤ m) (h3 : m ≤ e) (h4 : e ≤ b) (h5 : b ≤ d.size) (hn : s + e = mid + m)
    (hl : ∀ i j, a ≤ i → i < s → e ≤ j → j < b → lt d[j]! d[i]! = false) (hr : ∀ i j, s ≤ i → i < m → m ≤ j → j < e → lt d[j]! d[i]! = true) :
    mrgA lt (mrgA lt (rotA d s m e) a s mid) mid e b = mrgA lt d a m b ∧ (Srt lt (seg d a m) → Srt lt (seg d m b) →
      Srt lt (seg (rotA d s m e) a s) ∧ Srt lt (seg (rotA d s m e) s mid) ∧ Srt lt (seg (mrgA lt (rotA d s m e) a s mid) mid e) ∧ Srt lt (seg (mrgA lt (rotA d s m e) a s mid) e b)) := by
  obtain ⟨P, X, Y, Q, hd, ha, hm, hb⟩ := cut4 d.toList (a := a) (m := m) (b := b) (by omega) (by omega) (by simpa using h5)
  have hc := cuts hd ha hm hb
  have hX : X = X.take (s - a) ++ X.drop (s - a) := (List.take_append_drop _ X).symm
  have hY : Y = Y.take (e - m) ++ Y.drop (e - m) := (List.take_append_drop _ Y).symm
  have s1 : X.take (s - a) = seg d a s := by rw [← hc.2.1, ← List.drop_take, List.take_take, Nat.min_eq_left h2]
  have s2 : X.drop (s - a) = seg d s m := by
    rw [← hc.2.1, List.drop_drop]; congr 1; omega
  have s3 : Y.take (e - m) = seg d m e := by rw [← hc.2.2.1, ← List.drop_take, List.take_take, Nat.min_eq_left h4]
  have s4 : Y.drop (e - m) = seg d e b := by
    rw [← hc.2.2.1, List.drop_drop]; congr 1; omega
  have l1 : (X.take (s - a)).length = s - a := by simp; omega
  have l2 : (X.drop (s - a)).length = m - s := by simp; omega
  have l3 : (Y.take (e - m)).length = e - m := by simp; omega
  have l4 : (Y.drop (e - m)).length = b - e := by simp; omega
  have q1 : ∀ x ∈ X.take (s - a), ∀ y ∈ Y.drop (e - m), lt y x = false := fun x hx y hy => by
    rw [s1] at hx; rw [s4] at hy
    obtain ⟨i, g1, g2, rfl⟩ := (seg_mem (by omega)).1 hx
    obtain ⟨j, g3, g4, rfl⟩ := (seg_mem h5).1 hy
    exact hl i j g1 g2 g3 g4
  have q2 : ∀ y ∈ Y.take (e - m), ∀ x ∈ X.drop (s - a), lt y x = true := fun y hy x hx => by
    rw [s2] at hx; rw [s3] at hy
    obtain ⟨i, g1, g2, rfl⟩ := (seg_mem (by omega)).1 hx
    obtain ⟨j, g3, g4, rfl⟩ := (seg_mem (by omega)).1 hy
    exact hr i j g1 g2 g3 g4
  have eX : seg d a m = X := hc.2.1
  have eY : seg d m b = Y := hc.2.2.1
  rw [eX, eY]
  clear s1 s2 s3 s4 hc eX eY
  generalize X.take (s - a) = A1 at *
  generalize X.drop (s - a) = A2 at *
  generalize Y.take (e - m) = B1 at *
  generalize Y.drop (e - m) = B2 at *
  subst hX; subst hY
  simp only [List.length_append] at hm hb
  have hd' : d.toList = (P ++ A1) ++ (A2 ++ (B1 ++ (B2 ++ Q))) := by rw [hd]; simp
  have r0 := rotA_list hd' (a := s) (m := m) (b := e) (by simp; omega) (by simp; omega) (by simp; omega)
  have r1 : (rotA d s m e).toList = P ++ (A1 ++ (B1 ++ (A2 ++ (B2 ++ Q)))) := by rw [r0]; simp
  have r2 := mrgA_list lt r1 (a := a) (m := s) (b := mid) ha (by omega) (by omega)
  have r3 : (mrgA lt (rotA d s m e) a s mid).toList = (P ++ mrg lt A1 B1) ++ (A2 ++ (B2 ++ Q)) := by rw [r2]; simp
  have r4 := mrgA_list lt r3 (a := mid) (m := e) (b := b) (by simp [mrg_length]; omega) (by simp [mrg_length]; omega) (by simp [mrg_length]; omega)
  refine ⟨?_, fun hA hB => ?_⟩
  · apply arr_eq
    rw [r4, mrgA_list lt hd ha (by simp; omega) (by simp; omega), mrg_split h A1 B1 A2 B2 q1 q2]
    simp
  · have c1 := cuts r1 (a := a) (m := s) (b := mid) ha (by omega) (by omega)
    have c2 := cuts r3 (a := mid) (m := e) (b := b) (by simp [mrg_length]; omega) (by simp [mrg_length]; omega) (by simp [mrg_length]; omega)
    have hA' := List.pairwise_append.1 hA
    have hB' := List.pairwise_append.1 hB
    exact ⟨by rw [show seg (rotA d s m e) a s = A1 from c1.2.1]; exact hA'.1, by rw [show seg (rotA d s m e) s mid = B1 from c1.2.2.1]; exact hB'.1,
      by rw [show seg (mrgA lt (rotA d s m e) a s mid) mid e = A2 from c2.2.1]; exact hA'.2.1, by rw [show seg (mrgA lt (rotA d s m e) a s mid) e b = B2 from c2.2.2.1]; exact hB'.2.1⟩
end
end Go.Ev
end

section
/- sort.swapRange_func at elements of k cells. -/
set_option linter.unusedSimpArgs false
set_option linter.unusedVariables false
namespace Go.Proofs
open Go.Shelf Go.RowKit Go.Lib Go.Sort Go.Ev
variable {P : Program} {ρ : Ren} {α : Type} [Inhabited α]
set_option maxHeartbeats 2000000 in
set_option maxRecDepth 100000 in
theorem Sb.swapRange (L : LaysGt.n49 P ρ) (enc : α → List Value) (k : Nat) (hk : ∀ x, (enc x).length = k) (g : Nat) (lb : Array Value) (sf : Nat) (sb : Array Value) (blk off a b n : Nat) (d : Array α) (w : World)
    (hswap : SwapSwapsK P sf sb enc k blk off d.size) (hH : HoldsK enc k w blk off d) (hblk : blk < w.heap.size) (ha : a + n ≤ d.size) (hb : b + n ≤ d.size) (hsz : d.size < 4611686018427387904) :
    Calls P (ρ.f 49) #[.agg (dat g lb sf sb), .int .i64 a, .int .i64 b, .int .i64 n] w fun e w' => e = .returned (.tuple #[]) ∧ SWB enc k w blk off (swr a b n 0 d) w' := by
  have mixed := L.mixed; have t0 := L.t0; have a0 := L.a0; have z0 := L.z0; have v0 := L.v0; have t3 := L.t3; have a3 := L.a3; have z3 := L.z3; have v3 := L.v3; have t4 := L.t4; have a4 := L.a4; have z4 := L.z4; have v4 := L.v4; have t26 := L.t26; have a26 := L.a26; have z26 := L.z26; have v26 := L.v26; have t38 := L.t38; have a38 := L.a38; have z38 := L.z38; have v38 := L.v38; have t42 := L.t42; have a42 := L.a42; have z42 := L.z42; have v42 := L.v42
  have u42 := run_underlying L.t42
  have hW1 : SWB enc k w blk off d (w.alloc (.cells (dat g lb sf sb) (ρ.t 42))) := (SWB.start hH).alloc _
  have hH1 : HoldsK enc k (w.alloc (.cells (dat g lb sf sb) (ρ.t 42))) blk off d := hW1.holds hblk hH rfl
  have hblk1 : blk < (w.alloc (.cells (dat g lb sf sb) (ρ.t 42))).heap.size := hW1.lt hblk
  go_enter L.f49, BodyGt.n49_ntmps ρ
  go_wp2
  go_loopw [8] (fun vi wr => ∃ (i : Nat) (dk : Array α), vi = .int .i64 i ∧ i ≤ n ∧ dk.size = d.size ∧ SWB enc k (w.alloc (.cells (dat g lb sf sb) (ρ.t 42))) blk off dk wr ∧ swr a b (n - i) i dk = swr a b n 0 d) (fun vi _ => n - (intOf vi).toNat)
  case atStart => exact ⟨0, d, rfl, Nat.zero_le _, rfl, SWB.start hH1, rfl⟩
  case round =>
    obtain ⟨i, dk, rfl, hin, hsk, hS, hO⟩ := hrel
    have c0 := swb_data hblk hS 0 (.func (.func g) #[] lb) (by simp)
    have c1 := swb_data hblk hS 1 (.func (.func sf) #[] sb) (by simp)
    have hHw : HoldsK enc k wr blk off dk := hS.holds hblk1 hH1 hsk
    have HS : Aside _ := hS
    have HO : Aside _ := hO
    have HW1 : Aside _ := hW1
    clear hS hO hH hH1 hW1
    by_cases hi : i < n
    · have hs := hswap wr dk hHw hsk (a + i) (b + i) (by omega) (by omega)
      rw [show ((a + i : Nat) : Int) = (a : Int) + i by omega, show ((b + i : Nat) : Int) = (b : Int) + i by omega] at hs
      have hz : (i : Int) < n := by omega
      go_wp2
      exact ⟨⟨i + 1, swp dk (a + i) (b + i), by go_num, by omega, by rw [swp_size]; exact hsk, SWB.swap HS.out hk hblk1 (a + i) (b + i) (by omega) (by omega), by rw [← HO.out, show n - i = (n - (i + 1)) + 1 by omega, swr]⟩, by simp [intOf]; omega⟩
    · have hz : ¬ (i : Int) < n := by omega
      go_wp2
      go_end0
      refine ⟨rfl, ?_⟩
      have hO := HO.out
      rw [show n - i = 0 by omega, swr] at hO
      rw [← hO]
      exact swb_down hblk HW1.out HS.out hsk
end Go.Proofs
end

section
/- sort.rotate_func at elements of k cells. -/
set_option linter.unusedSimpArgs false
set_option linter.unusedVariables false
namespace Go.Proofs
open Go.Shelf Go.RowKit Go.Lib Go.Sort Go.Ev
variable {P : Program} {ρ : Ren} {α : Type} [Inhabited α]
set_option maxHeartbeats 4000000 in
set_option maxRecDepth 100000 in
theorem Sb.rotate (L : LaysGt.n42 P ρ) (enc : α → List Value) (k : Nat) (hk : ∀ x, (enc x).length = k) (g : Nat) (lb : Array Value) (sf : Nat) (sb : Array Value) (blk off a m b : Nat) (d : Array α) (w : World)
    (hswap : SwapSwapsK P sf sb enc k blk off d.size) (hH : HoldsK enc k w blk off d) (hblk : blk < w.heap.size) (ha : a < m) (hm : m < b) (hb : b ≤ d.size) (hsz : d.size < 4611686018427387904) :
    Calls P (ρ.f 42) #[.agg (dat g lb sf sb), .int .i64 a, .int .i64 m, .int .i64 b] w fun e w' => e = .returned (.tuple #[]) ∧ SWB enc k w blk off (rotA d a m b) w' := by
  have mixed := L.mixed; have t0 := L.t0; have a0 := L.a0; have z0 := L.z0; have v0 := L.v0; have t3 := L.t3; have a3 := L.a3; have z3 := L.z3; have v3 := L.v3; have t4 := L.t4; have a4 := L.a4; have z4 := L.z4; have v4 := L.v4; have t26 := L.t26; have a26 := L.a26; have z26 := L.z26; have v26 := L.v26; have t38 := L.t38; have a38 := L.a38; have z38 := L.z38; have v38 := L.v38; have t42 := L.t42; have a42 := L.a42; have z42 := L.z42; have v42 := L.v42
  have u42 := run_underlying L.t42
  have e49 : ∀ args w, (callFunc (ρ.f 49) args).run P w = .ok (.enter (ρ.f 49) args) w := enters_of L.f49 (by kernel_rfl) rfl
  have LS : LaysGt.n49 P ρ := { L with }
  have hW1 : SWB enc k w blk off d (w.alloc (.cells (dat g lb sf sb) (ρ.t 42))) := (SWB.start hH).alloc _
  have hH1 : HoldsK enc k (w.alloc (.cells (dat g lb sf sb) (ρ.t 42))) blk off d := hW1.holds hblk hH rfl
  have hblk1 : blk < (w.alloc (.cells (dat g lb sf sb) (ρ.t 42))).heap.size := hW1.lt hblk
  go_enter L.f42, BodyGt.n42_ntmps ρ
  go_wp2
  go_loopw [8, 9] (fun vi vj wr => ∃ (i j : Nat) (dk : Array α), vi = .int .i64 i ∧ vj = .int .i64 j ∧ 0 < i ∧ 0 < j ∧ i ≤ m ∧ m + j ≤ d.size ∧ dk.size = d.size ∧ SWB enc k (w.alloc (.cells (dat g lb sf sb) (ρ.t 42))) blk off dk wr ∧ rotA dk (m - i) m (m + j) = rotA d a m b) (fun vi vj _ => (intOf vi).toNat + (intOf vj).toNat)
  case atStart => exact ⟨m - a, b - m, d, by go_num, by go_num, by omega, by omega, by omega, by omega, rfl, SWB.start hH1, by rw [show m - (m - a) = a by omega, show m + (b - m) = b by omega]⟩
  case round =>
    obtain ⟨i, j, dk, rfl, rfl, hi0, hj0, him, hjb, hsk, hS, hO⟩ := hrel
    have c0 := swb_data hblk hS 0 (.func (.func g) #[] lb) (by simp)
    have c1 := swb_data hblk hS 1 (.func (.func sf) #[] sb) (by simp)
    have hHw : HoldsK enc k wr blk off dk := hS.holds hblk1 hH1 hsk
    have hbw : blk < wr.heap.size := hS.lt hblk1
    have hcall := fun (x y n : Nat) (h1 : x + n ≤ d.size) (h2 : y + n ≤ d.size) => Sb.swapRange LS enc k hk g lb sf sb blk off x y n dk wr (by rw [hsk]; exact hswap) hHw hbw (by omega) (by omega) (by omega)
    have HS : Aside _ := hS
    have HO : Aside _ := hO
    have HW1 : Aside _ := hW1
    have HC : Aside _ := hcall
    clear hS hO hH hH1 hW1 hcall hHw hswap
    by_cases hij : i = j
    · subst hij
      have hz : ¬ ((i : Int) ≠ i) := by omega
      have hc := HC.out (m - i) m i (by omega) (by omega)
      rw [show ((m - i : Nat) : Int) = (m : Int) - i by omega] at hc
      go_wp2_with (go_at_fn (ρ.f 49); refine hc.mono ?_; rintro e w1 ⟨rfl, hS1⟩)
      go_end0
      refine ⟨rfl, ?_⟩
      rw [← HO.out, ← rot_end him (by omega)]
      exact swb_down hblk HW1.out (swb_down hblk1 HS.out hS1 (by rw [swr_size])) (by rw [swr_size]; exact hsk)
    · have hz : ((i : Int) ≠ j) := by omega
      by_cases hgt : j < i
      · have hz2 : ((i : Int) > j) := by omega
        have hc := HC.out (m - i) m j (by omega) (by omega)
        rw [show ((m - i : Nat) : Int) = (m : Int) - i by omega] at hc
        go_wp2_with (go_at_fn (ρ.f 49); refine hc.mono ?_; rintro e w1 ⟨rfl, hS1⟩)
        go_roundw
        case rel => exact ⟨i - j, j, swr (m - i) m j 0 dk, by go_num, rfl, by omega, hj0, by omega, hjb, by rw [swr_size]; exact hsk, swb_down hblk1 HS.out hS1 (by rw [swr_size]), by rw [← HO.out, rot_more hgt him (by omega)]⟩
        case measure => simp [intOf]; omega
      · have hz2 : ¬ ((i : Int) > j) := by omega
        have hc := HC.out (m - i) (m + j - i) i (by omega) (by omega)
        rw [show ((m - i : Nat) : Int) = (m : Int) - i by omega, show ((m + j - i : Nat) : Int) = (m : Int) + j - i by omega] at hc
        go_wp2_with (go_at_fn (ρ.f 49); refine hc.mono ?_; rintro e w1 ⟨rfl, hS1⟩)
        go_roundw
        case rel => exact ⟨i, j - i, swr (m - i) (m + j - i) i 0 dk, rfl, by go_num, hi0, by omega, him, by omega, by rw [swr_size]; exact hsk, swb_down hblk1 HS.out hS1 (by rw [swr_size]), by rw [← HO.out, rot_less (by omega) him (by omega)]⟩
        case measure => simp [intOf]; omega
end Go.Proofs
end

section
/- sort.symMerge_func at elements of k cells: one element ahead of a sorted range, one behind. -/
set_option linter.unusedSimpArgs false
set_option linter.unusedVariables false
namespace Go.Proofs
open Go.Shelf Go.RowKit Go.Lib Go.Sort Go.Ev
variable {P : Program} {ρ : Ren} {α : Type} [Inhabited α]
set_option maxHeartbeats 4000000 in
set_option maxRecDepth 100000 in
theorem Sb.symMerge_one (L : LaysGt.n30 P ρ) (enc : α → List Value) (k : Nat) (hk : ∀ x, (enc x).length = k) (lt : α → α → Bool) (hlt : Weak lt) (g : Nat) (lb : Array Value) (sf : Nat) (sb : Array Value) (blk off a m b : Nat) (hm : m = a + 1) (d : Array α) (w : World)
    (eg : ∀ args w, (callFunc g args).run P w = .ok (.enter g args) w) (hless : LessB P g lb enc k lt blk off d.size w) (hswap : SwapSwapsK P sf sb enc k blk off d.size)
    (hH : HoldsK enc k w blk off d) (hblk : blk < w.heap.size) (hab : m < b) (hb : b ≤ d.size) (hsz : d.size < 4611686018427387904) (hs2 : Srt lt (seg d m b)) :
    Calls P (ρ.f 30) #[.agg (dat g lb sf sb), .int .i64 a, .int .i64 m, .int .i64 b] w fun e w' => e = .returned (.tuple #[]) ∧ SWB enc k w blk off (mrgA lt d a m b) w' := by
  have mixed := L.mixed; have t0 := L.t0; have a0 := L.a0; have z0 := L.z0; have v0 := L.v0; have t3 := L.t3; have a3 := L.a3; have z3 := L.z3; have v3 := L.v3; have t4 := L.t4; have a4 := L.a4; have z4 := L.z4; have v4 := L.v4; have t26 := L.t26; have a26 := L.a26; have z26 := L.z26; have v26 := L.v26; have t38 := L.t38; have a38 := L.a38; have z38 := L.z38; have v38 := L.v38; have t42 := L.t42; have a42 := L.a42; have z42 := L.z42; have v42 := L.v42; have t47 := L.t47; have a47 := L.a47; have z47 := L.z47; have v47 := L.v47
  have u42 := run_underlying L.t42
  have hW1 : SWB enc k w blk off d (w.alloc (.cells (dat g lb sf sb) (ρ.t 42))) := (SWB.start hH).alloc _
  have hH1 : HoldsK enc k (w.alloc (.cells (dat g lb sf sb) (ρ.t 42))) blk off d := hW1.holds hblk hH rfl
  have hblk1 : blk < (w.alloc (.cells (dat g lb sf sb) (ρ.t 42))).heap.size := hW1.lt hblk
  have hL1 : LessB P g lb enc k lt blk off d.size (w.alloc (.cells (dat g lb sf sb) (ρ.t 42))) := hW1.lessReads hless hblk rfl
  have hsrt := (seg_srt (lt := lt) hb).1 hs2
  have hz0 : (m : Int) - (a : Int) = 1 := by omega
  have HM : Aside _ := hm
  have ham : a < m := by omega
  have ham1 : a ≤ m - 1 := by omega
  clear hm
  go_enter L.f30, BodyGt.n30_ntmps ρ
  go_wp2
  go_loopw [8, 9] (fun vi vj wr => ∃ (i j : Nat), vi = .int .i64 i ∧ vj = .int .i64 j ∧ m ≤ i ∧ i ≤ j ∧ j ≤ b ∧ SWB enc k (w.alloc (.cells (dat g lb sf sb) (ρ.t 42))) blk off d wr ∧ (∀ q, m ≤ q → q < i → lt d[q]! d[a]! = true) ∧ (∀ q, j ≤ q → q < b → lt d[q]! d[a]! = false)) (fun vi vj _ => (intOf vj).toNat - (intOf vi).toNat)
  case atStart => exact ⟨m, b, rfl, rfl, by omega, by omega, by omega, SWB.start hH1, fun q h1 h2 => by omega, fun q h1 h2 => by omega⟩
  case round =>
    obtain ⟨i, j, rfl, rfl, hi0, hij, hjb, hS, hl, hr⟩ := hrel
    have c0 := swb_data hblk hS 0 (.func (.func g) #[] lb) (by simp)
    have c1 := swb_data hblk hS 1 (.func (.func sf) #[] sb) (by simp)
    have HS : Aside _ := hS
    have HL : Aside _ := hl
    have HR : Aside _ := hr
    have HT : Aside _ := hsrt
    have HW1 : Aside _ := hW1
    have HH1 : Aside _ := hH1
    have HSW : Aside _ := hswap
    have hls := fun (x y : Nat) (h1 : x < d.size) (h2 : y < d.size) => hS.less hL1 rfl x y h1 h2
    have HLS : Aside _ := hls
    clear hS hl hr hsrt hs2 hH hH1 hW1 hless hL1 hswap hls
    by_cases hz : i < j
    · have hz' : (i : Int) < j := by omega
      have hl1 := HLS.out ((i + j) / 2) a (by omega) (by omega)
      rw [show (((i + j) / 2 : Nat) : Int) = ((i : Int) + j) / 2 by omega] at hl1
      cases hv : lt d[(i + j) / 2]! d[a]! with
      | true =>
        rw [hv] at hl1
        go_wp2_with (go_at_fn g; refine hl1.mono ?_; rintro e w' ⟨rfl, hB⟩)
        go_roundw
        case rel => exact ⟨(i + j) / 2 + 1, j, by go_num, rfl, by omega, by omega, hjb, SWB.below HS.out hB, fun p h1 h2 => (Nat.lt_or_ge p ((i + j) / 2)).elim (fun h => hlt.right (HT.out p ((i + j) / 2) h1 h (by omega)) hv) (fun h => by rw [show p = (i + j) / 2 by omega]; exact hv), HR.out⟩
        case measure => simp [intOf]; omega
      | false =>
        rw [hv] at hl1
        go_wp2_with (go_at_fn g; refine hl1.mono ?_; rintro e w' ⟨rfl, hB⟩)
        go_roundw
        case rel => exact ⟨i, (i + j) / 2, rfl, by go_num, hi0, by omega, by omega, SWB.below HS.out hB, HL.out, fun p h1 h2 => (Nat.eq_or_lt_of_le h1).elim (fun h => by rw [← h]; exact hv) (fun h => hlt.neg _ _ _ (HT.out ((i + j) / 2) p (by omega) h h2) hv)⟩
        case measure => simp [intOf]; omega
    · obtain rfl : i = j := by omega
      have hz' : ¬ ((i : Int) < i) := by omega
      go_wp2
      go_loopw [11] (fun vi wr => ∃ (p : Nat) (dk : Array α), vi = .int .i64 p ∧ a ≤ p ∧ p ≤ i - 1 ∧ dk.size = d.size ∧ SWB enc k (w.alloc (.cells (dat g lb sf sb) (ρ.t 42))) blk off dk wr ∧ bubU (i - 1 - p) p dk = bubU (i - 1 - a) a d) (fun vi _ => i - (intOf vi).toNat)
      case atStart => exact ⟨a, d, rfl, Nat.le_refl _, by omega, rfl, HS.out, rfl⟩
      case round =>
        obtain ⟨p, dk, rfl, hap, hpi, hsk, hS, hO⟩ := hrel
        have c0 := swb_data hblk hS 0 (.func (.func g) #[] lb) (by simp)
        have c1 := swb_data hblk hS 1 (.func (.func sf) #[] sb) (by simp)
        have hHw := hS.holds hblk1 HH1.out hsk
        have HS2 : Aside _ := hS
        have HO : Aside _ := hO
        have HHw : Aside _ := hHw
        clear hS hO hHw
        by_cases hq : p < i - 1
        · have hq' : (p : Int) < (i : Int) - 1 := by omega
          have hs := HSW.out _ dk HHw.out hsk p (p + 1) (by omega) (by omega)
          rw [show ((p + 1 : Nat) : Int) = (p : Int) + 1 by omega] at hs
          go_wp2
          exact ⟨⟨p + 1, swp dk p (p + 1), by go_num, by omega, by omega, by rw [swp_size]; exact hsk, SWB.swap HS2.out hk hblk1 p (p + 1) (by omega) (by omega), by rw [← HO.out, show i - 1 - p = (i - 1 - (p + 1)) + 1 by omega, bubU]⟩, by simp [intOf]; omega⟩
        · have hq' : ¬ ((p : Int) < (i : Int) - 1) := by omega
          go_wp2
          (try simp only [Exit.inBlock, Exit.then]); refine bodyPost_ret (results_none rfl _ _ _) rfl ?_
          refine ⟨rfl, ?_⟩
          have hO := HO.out
          rw [show i - 1 - p = 0 by omega, bubU] at hO
          have hL := HL.out
          have hm := HM.out
          subst hm
          rw [sym_one hlt hi0 hjb hb hL HR.out] at hO
          rw [← hO]
          exact swb_down hblk HW1.out HS2.out hsk
end Go.Proofs
end

section
/- sort.symMerge_func at elements of k cells: one element behind a sorted range. -/
set_option linter.unusedSimpArgs false
set_option linter.unusedVariables false
namespace Go.Proofs
open Go.Shelf Go.RowKit Go.Lib Go.Sort Go.Ev
variable {P : Program} {ρ : Ren} {α : Type} [Inhabited α]
set_option maxHeartbeats 4000000 in
set_option maxRecDepth 100000 in
theorem Sb.symMerge_last (L : LaysGt.n30 P ρ) (enc : α → List Value) (k : Nat) (hk : ∀ x, (enc x).length = k) (lt : α → α → Bool) (hlt : Weak lt) (g : Nat) (lb : Array Value) (sf : Nat) (sb : Array Value) (blk off a m b : Nat) (hm : b = m + 1) (d : Array α) (w : World)
    (eg : ∀ args w, (callFunc g args).run P w = .ok (.enter g args) w) (hless : LessB P g lb enc k lt blk off d.size w) (hswap : SwapSwapsK P sf sb enc k blk off d.size)
    (hH : HoldsK enc k w blk off d) (hblk : blk < w.heap.size) (hab : a < m) (hne : ¬ m - a = 1) (hb : b ≤ d.size) (hsz : d.size < 4611686018427387904) (hs2 : Srt lt (seg d a m)) :
    Calls P (ρ.f 30) #[.agg (dat g lb sf sb), .int .i64 a, .int .i64 m, .int .i64 b] w fun e w' => e = .returned (.tuple #[]) ∧ SWB enc k w blk off (mrgA lt d a m b) w' := by
  have mixed := L.mixed; have t0 := L.t0; have a0 := L.a0; have z0 := L.z0; have v0 := L.v0; have t3 := L.t3; have a3 := L.a3; have z3 := L.z3; have v3 := L.v3; have t4 := L.t4; have a4 := L.a4; have z4 := L.z4; have v4 := L.v4; have t26 := L.t26; have a26 := L.a26; have z26 := L.z26; have v26 := L.v26; have t38 := L.t38; have a38 := L.a38; have z38 := L.z38; have v38 := L.v38; have t42 := L.t42; have a42 := L.a42; have z42 := L.z42; have v42 := L.v42; have t47 := L.t47; have a47 := L.a47; have z47 := L.z47; have v47 := L.v47
  have u42 := run_underlying L.t42
  have hW1 : SWB enc k w blk off d (w.alloc (.cells (dat g lb sf sb) (ρ.t 42))) := (SWB.start hH).alloc _
  have hH1 : HoldsK enc k (w.alloc (.cells (dat g lb sf sb) (ρ.t 42))) blk off d := hW1.holds hblk hH rfl
  have hblk1 : blk < (w.alloc (.cells (dat g lb sf sb) (ρ.t 42))).heap.size := hW1.lt hblk
  have hL1 : LessB P g lb enc k lt blk off d.size (w.alloc (.cells (dat g lb sf sb) (ρ.t 42))) := hW1.lessReads hless hblk rfl
  have hsrt := (seg_srt (lt := lt) (show m ≤ d.size by omega)).1 hs2
  have hz0 : (b : Int) - (m : Int) = 1 := by omega
  have hz1 : ((m : Int) - (a : Int) == 1) = false := by simp; omega
  have HM : Aside _ := hm
  have hmb : m < b := by omega
  clear hm
  go_enter L.f30, BodyGt.n30_ntmps ρ
  go_wp2
  go_loopw [12, 13] (fun vi vj wr => ∃ (i j : Nat), vi = .int .i64 i ∧ vj = .int .i64 j ∧ a ≤ i ∧ i ≤ j ∧ j ≤ m ∧ SWB enc k (w.alloc (.cells (dat g lb sf sb) (ρ.t 42))) blk off d wr ∧ (∀ q, a ≤ q → q < i → lt d[m]! d[q]! = false) ∧ (∀ q, j ≤ q → q < m → lt d[m]! d[q]! = true)) (fun vi vj _ => (intOf vj).toNat - (intOf vi).toNat)
  case atStart => exact ⟨a, m, rfl, rfl, by omega, by omega, by omega, SWB.start hH1, fun q h1 h2 => by omega, fun q h1 h2 => by omega⟩
  case round =>
    obtain ⟨i, j, rfl, rfl, hi0, hij, hjb, hS, hl, hr⟩ := hrel
    have c0 := swb_data hblk hS 0 (.func (.func g) #[] lb) (by simp)
    have c1 := swb_data hblk hS 1 (.func (.func sf) #[] sb) (by simp)
    have HS : Aside _ := hS
    have HL : Aside _ := hl
    have HR : Aside _ := hr
    have HT : Aside _ := hsrt
    have HW1 : Aside _ := hW1
    have HH1 : Aside _ := hH1
    have HSW : Aside _ := hswap
    have hls := fun (x y : Nat) (h1 : x < d.size) (h2 : y < d.size) => hS.less hL1 rfl x y h1 h2
    have HLS : Aside _ := hls
    clear hS hl hr hsrt hs2 hH hH1 hW1 hless hL1 hswap hls
    by_cases hz : i < j
    · have hz' : (i : Int) < j := by omega
      have hl1 := HLS.out m ((i + j) / 2) (by omega) (by omega)
      rw [show (((i + j) / 2 : Nat) : Int) = ((i : Int) + j) / 2 by omega] at hl1
      cases hv : lt d[m]! d[(i + j) / 2]! with
      | false =>
        rw [hv] at hl1
        go_wp2_with (go_at_fn g; refine hl1.mono ?_; rintro e w' ⟨rfl, hB⟩)
        go_roundw
        case rel => exact ⟨(i + j) / 2 + 1, j, by go_num, rfl, by omega, by omega, hjb, SWB.below HS.out hB, fun p h1 h2 => (Nat.lt_or_ge p ((i + j) / 2)).elim (fun h => hlt.neg _ _ _ hv (HT.out p ((i + j) / 2) h1 h (by omega))) (fun h => by rw [show p = (i + j) / 2 by omega]; exact hv), HR.out⟩
        case measure => simp [intOf]; omega
      | true =>
        rw [hv] at hl1
        go_wp2_with (go_at_fn g; refine hl1.mono ?_; rintro e w' ⟨rfl, hB⟩)
        go_roundw
        case rel => exact ⟨i, (i + j) / 2, rfl, by go_num, hi0, by omega, by omega, SWB.below HS.out hB, HL.out, fun p h1 h2 => (Nat.eq_or_lt_of_le h1).elim (fun h => by rw [← h]; exact hv) (fun h => hlt.left hv (HT.out ((i + j) / 2) p (by omega) h h2))⟩
        case measure => simp [intOf]; omega
    · obtain rfl : i = j := by omega
      have hz' : ¬ ((i : Int) < i) := by omega
      go_wp2
      go_loopw [15] (fun vi wr => ∃ (p : Nat) (dk : Array α), vi = .int .i64 p ∧ i ≤ p ∧ p ≤ m ∧ dk.size = d.size ∧ SWB enc k (w.alloc (.cells (dat g lb sf sb) (ρ.t 42))) blk off dk wr ∧ bubD (p - i) p dk = bubD (m - i) m d) (fun vi _ => (intOf vi).toNat)
      case atStart => exact ⟨m, d, rfl, by omega, Nat.le_refl _, rfl, HS.out, rfl⟩
      case round =>
        obtain ⟨p, dk, rfl, hap, hpi, hsk, hS, hO⟩ := hrel
        have c0 := swb_data hblk hS 0 (.func (.func g) #[] lb) (by simp)
        have c1 := swb_data hblk hS 1 (.func (.func sf) #[] sb) (by simp)
        have hHw := hS.holds hblk1 HH1.out hsk
        have HS2 : Aside _ := hS
        have HO : Aside _ := hO
        have HHw : Aside _ := hHw
        clear hS hO hHw
        by_cases hq : i < p
        · have hq' : (p : Int) > (i : Int) := by omega
          have hs := HSW.out _ dk HHw.out hsk p (p - 1) (by omega) (by omega)
          rw [show ((p - 1 : Nat) : Int) = (p : Int) - 1 by omega] at hs
          go_wp2
          exact ⟨⟨p - 1, swp dk p (p - 1), by go_num, by omega, by omega, by rw [swp_size]; exact hsk, SWB.swap HS2.out hk hblk1 p (p - 1) (by omega) (by omega), by rw [← HO.out, show p - i = (p - 1 - i) + 1 by omega, bubD]⟩, by simp [intOf]; omega⟩
        · have hq' : ¬ ((p : Int) > (i : Int)) := by omega
          go_wp2
          (try simp only [Exit.inBlock, Exit.then]); refine bodyPost_ret (results_none rfl _ _ _) rfl ?_
          refine ⟨rfl, ?_⟩
          have hO := HO.out
          rw [show p - i = 0 by omega, bubD] at hO
          have hm := HM.out
          subst hm
          rw [sym_last hlt hi0 hjb hb HL.out HR.out] at hO
          rw [← hO]
          exact swb_down hblk HW1.out HS2.out hsk
end Go.Proofs
end

section
/- Stable order: the cut that the library's search finds. -/
set_option linter.unusedSimpArgs false
set_option linter.unusedVariables false
set_option linter.unusedSectionVars false
namespace Go.Ev
open Go.Sort (swp)
section
variable {α : Type} [Inhabited α] {lt : α → α → Bool}
theorem sym_range {a m b s0 r0 mid : Nat} (ham : a < m) (hmb : m < b) (hmid : mid = (a + b) / 2) (h0 : (s0 = a ∧ r0 = m ∧ m ≤ mid) ∨ (s0 + b = mid + m ∧ r0 = mid ∧ mid < m)) :
    a ≤ s0 ∧ s0 ≤ r0 ∧ r0 ≤ m ∧ r0 ≤ mid ∧ ∀ q, s0 ≤ q → q < r0 → a ≤ q ∧ q < m ∧ m ≤ mid + m - 1 - q ∧ mid + m - 1 - q < b := by
  rcases h0 with ⟨rfl, rfl, h⟩ | ⟨h1, rfl, h⟩
  · exact ⟨by omega, by omega, by omega, by omega, fun q h1 h2 => ⟨by omega, by omega, by omega, by omega⟩⟩
  · exact ⟨by omega, by omega, by omega, by omega, fun q h2 h3 => ⟨by omega, by omega, by omega, by omega⟩⟩
theorem sym_low (h : Weak lt) {d : Array α} {a m b x y c q : Nat} (hT1 : ∀ i j, a ≤ i → i < j → j < m → lt d[j]! d[i]! = false) (hT2 : ∀ i j, m ≤ i → i < j → j < b → lt d[j]! d[i]! = false)
    (hq : a ≤ q) (hqc : q ≤ c) (hc : c < m) (hx : m ≤ x) (hxy : x ≤ y) (hy : y < b) (hv : lt d[x]! d[c]! = false) : lt d[y]! d[q]! = false := by
  have e1 : lt d[y]! d[c]! = false := by
    rcases Nat.eq_or_lt_of_le hxy with e | e
    · rw [← e]; exact hv
    · exact h.neg _ _ _ (hT2 x y hx e hy) hv
  rcases Nat.eq_or_lt_of_le hqc with e | e
  · rw [e]; exact e1
  · exact h.neg _ _ _ e1 (hT1 q c hq e hc)
theorem sym_high (h : Weak lt) {d : Array α} {a m b x y c q : Nat} (hT1 : ∀ i j, a ≤ i → i < j → j < m → lt d[j]! d[i]! = false) (hT2 : ∀ i j, m ≤ i → i < j → j < b → lt d[j]! d[i]! = false)
    (hc : a ≤ c) (hqc : c ≤ q) (hq : q < m) (hy : m ≤ y) (hxy : y ≤ x) (hx : x < b) (hv : lt d[x]! d[c]! = true) : lt d[y]! d[q]! = true := by
  have e1 : lt d[y]! d[c]! = true := by
    rcases Nat.eq_or_lt_of_le hxy with e | e
    · rw [e]; exact hv
    · exact h.right (hT2 y x hy e hx) hv
  rcases Nat.eq_or_lt_of_le hqc with e | e
  · rw [← e]; exact e1
  · exact h.left e1 (hT1 c q hc e hq)
theorem sym_cut (h : Weak lt) {d : Array α} {a m b s0 r0 s mid : Nat} (ham : a < m) (hmb : m < b) (hmid : mid = (a + b) / 2) (h0 : (s0 = a ∧ r0 = m ∧ m ≤ mid) ∨ (s0 + b = mid + m ∧ r0 = mid ∧ mid < m))
    (hT1 : ∀ i j, a ≤ i → i < j → j < m → lt d[j]! d[i]! = false) (hT2 : ∀ i j, m ≤ i → i < j → j < b → lt d[j]! d[i]! = false) (h1 : s0 ≤ s) (h2 : s ≤ r0)
    (hl : ∀ q, s0 ≤ q → q < s → lt d[mid + m - 1 - q]! d[q]! = false) (hr : ∀ q, s ≤ q → q < r0 → lt d[mid + m - 1 - q]! d[q]! = true) :
    (a ≤ s ∧ s ≤ m ∧ m ≤ mid + m - s ∧ mid + m - s ≤ b ∧ s ≤ mid) ∧ (∀ i j, a ≤ i → i < s → mid + m - s ≤ j → j < b → lt d[j]! d[i]! = false) ∧ ∀ i j, s ≤ i → i < m → m ≤ j → j < mid + m - s → lt d[j]! d[i]! = true := by
  obtain ⟨r1, r2, r3, r4, r5⟩ := sym_range ham hmb hmid h0
  refine ⟨⟨by omega, by omega, by omega, by omega, by omega⟩, fun i j g1 g2 g3 g4 => ?_, fun i j g1 g2 g3 g4 => ?_⟩
  · by_cases hs : s = s0
    · exfalso; omega
    · have hv := hl (s - 1) (by omega) (by omega)
      obtain ⟨b1, b2, b3, b4⟩ := r5 (s - 1) (by omega) (by omega)
      exact sym_low h hT1 hT2 g1 (by omega) b2 b3 (by omega) g4 hv
  · by_cases hs : s = r0
    · exfalso; omega
    · have hv := hr s (by omega) (by omega)
      obtain ⟨b1, b2, b3, b4⟩ := r5 s (by omega) (by omega)
      exact sym_high h hT1 hT2 b1 g1 g2 g3 (by omega) b4 hv
theorem rotA_id {d : Array α} {s m e : Nat} (h1 : s ≤ m) (h2 : m ≤ e) (h3 : e ≤ d.size) (h : ¬ (s < m ∧ m < e)) : rotA d s m e = d := by
  obtain ⟨P, X, Y, Q, hd, ha, hm, hb⟩ := cut4 d.toList h1 h2 (by simpa using h3)
  apply arr_eq
  rw [rotA_list hd ha hm hb, hd]
  by_cases hx : X = []
  · subst hx; simp
  · have : Y = [] := by
      have := List.length_pos_iff.2 hx
      exact List.eq_nil_of_length_eq_zero (by omega)
    subst this; simp
theorem mrgA_id {d : Array α} {a m b : Nat} (h1 : a ≤ m) (h2 : m ≤ b) (h3 : b ≤ d.size) (h : ¬ (a < m ∧ m < b)) : mrgA lt d a m b = d := by
  obtain ⟨P, X, Y, Q, hd, ha, hm, hb⟩ := cut4 d.toList h1 h2 (by simpa using h3)
  apply arr_eq
  rw [mrgA_list lt hd ha hm hb, hd]
  by_cases hx : X = []
  · subst hx; simp [nil_mrg]
  · have : Y = [] := by
      have := List.length_pos_iff.2 hx
      exact List.eq_nil_of_length_eq_zero (by omega)
    subst this; simp [mrg_nil]
end
end Go.Ev
end
