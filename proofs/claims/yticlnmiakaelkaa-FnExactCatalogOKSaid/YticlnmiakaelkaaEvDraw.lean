/- A region whose operations come in any order: lists of writes. -/
import Derived.Test.YticlnmiakaelkaaEvCode
import Derived.Test.YticlnmiakaelkaaEvNat
import Derived.Orders
set_option linter.unusedSimpArgs false
set_option linter.unusedVariables false
namespace Go.Ev
open Go.RowKit (Below)

/-! ### writes, of which some are done -/
def ovr {α : Type} (f : Nat → Option (Option α)) (S : Nat → Option α) : Nat → Option α := fun x => match f x with
  | some v => v
  | none => S x
def foldW {α : Type} (L : Nat → Bool) : Nat → List (Nat → Option (Option α)) → (Nat → Option α) → Nat → Option α
  | _, [], S => S
  | j, f :: r, S => foldW L (j + 1) r (match L j with
    | true => ovr f S
    | false => S)
section
variable {α : Type}
theorem foldW_congr {L L' : Nat → Bool} (x : Nat) : ∀ (T : List (Nat → Option (Option α))) (j : Nat) (S S' : Nat → Option α), S x = S' x → (∀ k f, T[k]? = some f → f x ≠ none → L (j + k) = L' (j + k)) → foldW L j T S x = foldW L' j T S' x
  | [], _, _, _, h, _ => h
  | f :: r, j, S, S', h, hk => by
    simp only [foldW]
    refine foldW_congr x r (j + 1) _ _ ?_ fun k g hg hx => ?_
    · cases hf : f x with
      | none =>
        have e1 : ∀ S : Nat → Option α, ovr f S x = S x := fun S => by simp [ovr, hf]
        cases L j <;> cases L' j <;> simp only [e1, h]
      | some v =>
        have := hk 0 f rfl (by rw [hf]; simp)
        rw [Nat.add_zero] at this
        rw [this]
        cases L' j
        · exact h
        · simp [ovr, hf]
    · have := hk (k + 1) g (by simpa using hg) hx
      rwa [show j + 1 + k = j + (k + 1) from by omega]
theorem foldW_none {L : Nat → Bool} (x : Nat) : ∀ (T : List (Nat → Option (Option α))) (j : Nat) (S : Nat → Option α), (∀ k f, T[k]? = some f → L (j + k) = true → f x = none) → foldW L j T S x = S x
  | [], _, _, _ => rfl
  | f :: r, j, S, hk => by
    simp only [foldW]
    rw [foldW_none x r (j + 1) _ fun k g hg hL => hk (k + 1) g (by simpa using hg) (by rwa [show j + (k + 1) = j + 1 + k from by omega])]
    cases hL : L j with
    | false => rfl
    | true =>
      have := hk 0 f rfl (by simpa using hL)
      simp [ovr, this]
theorem foldW_hit {L : Nat → Bool} (x : Nat) (v : Option α) : ∀ (T : List (Nat → Option (Option α))) (j : Nat) (S : Nat → Option α) (k : Nat) (f : Nat → Option (Option α)), T[k]? = some f → f x = some v → L (j + k) = true →
    (∀ k' f', k < k' → T[k']? = some f' → L (j + k') = true → f' x = none) → foldW L j T S x = v
  | [], _, _, k, f, h, _, _, _ => by simp at h
  | g :: r, j, S, 0, f, h, hx, hL, hk => by
    simp only [List.getElem?_cons_zero, Option.some.injEq] at h
    subst h
    simp only [foldW]
    rw [Nat.add_zero] at hL
    rw [hL]
    rw [foldW_none x r (j + 1) _ fun k f' hf hL' => hk (k + 1) f' (by omega) (by simpa using hf) (by rwa [show j + (k + 1) = j + 1 + k from by omega])]
    simp [ovr, hx]
  | g :: r, j, S, k + 1, f, h, hx, hL, hk => by
    simp only [foldW]
    exact foldW_hit x v r (j + 1) _ k f (by simpa using h) hx (by rwa [show j + 1 + k = j + (k + 1) from by omega]) fun k' f' hlt hf hL' => hk (k' + 1) f' (by omega) (by simpa using hf) (by rwa [show j + (k' + 1) = j + 1 + k' from by omega])
end

theorem find_only {α : Type} : ∀ (fp : List Nat) (l : List (Nat × α)) (i : Nat), find (only fp l) i = if i ∈ fp then find l i else none
  | fp, [], i => by simp [only, find]
  | fp, (k, v) :: r, i => by
    have ih := find_only fp r i
    simp only [only]
    cases hm : memN fp k with
    | true =>
      have hk := (memN_iff fp k).1 hm
      simp only [find]
      cases hb : Nat.beq k i with
      | true =>
        have := Nat.eq_of_beq_eq_true hb
        subst this
        simp [hk]
      | false => simp only; exact ih
    | false =>
      have hk : k ∉ fp := fun h => by rw [(memN_iff fp k).2 h] at hm; cases hm
      simp only [ih, find]
      cases hb : Nat.beq k i with
      | true =>
        have := Nat.eq_of_beq_eq_true hb
        subst this
        simp [hk]
      | false => rfl
theorem find_without {α : Type} : ∀ (fp : List Nat) (l : List (Nat × α)) (i : Nat), find (without fp l) i = if i ∈ fp then none else find l i
  | fp, [], i => by simp [without, find]
  | fp, (k, v) :: r, i => by
    have ih := find_without fp r i
    simp only [without]
    cases hm : memN fp k with
    | true =>
      have hk := (memN_iff fp k).1 hm
      simp only [ih, find]
      cases hb : Nat.beq k i with
      | true =>
        have := Nat.eq_of_beq_eq_true hb
        subst this
        simp [hk]
      | false => rfl
    | false =>
      have hk : k ∉ fp := fun h => by rw [(memN_iff fp k).2 h] at hm; cases hm
      simp only [find]
      cases hb : Nat.beq k i with
      | true =>
        have := Nat.eq_of_beq_eq_true hb
        subst this
        simp [hk]
      | false => simp only; exact ih
theorem find_mix {α : Type} (ws : List Nat) (a b : List (Nat × α)) (i : Nat) : find (only ws a ++ without ws b) i = if i ∈ ws then find a i else find b i := by
  rw [find_append, find_only, find_without]
  by_cases h : i ∈ ws
  · simp only [h, if_true]
    cases find a i <;> rfl
  · simp only [h, if_false]

/-! ### what comes ahead -/
theorem binding_eq (x : Edge) : Region.binds .any x = binding x := by
  unfold Region.binds binding
  cases x.ground <;> rfl
theorem ancOf_spec {j : Nat} {known : List (Nat × List Nat)} : ∀ (es : List Edge) (a : Nat), a ∈ ancOf j known es → ∃ x ∈ es, binding x = true ∧ x.on < j ∧ (a = x.on ∨ ∃ l, find known x.on = some l ∧ a ∈ l)
  | [], a, h => by simp [ancOf] at h
  | x :: r, a, h => by
    have ih := ancOf_spec (j := j) (known := known) r a
    have up : a ∈ ancOf j known r → ∃ y ∈ x :: r, binding y = true ∧ y.on < j ∧ (a = y.on ∨ ∃ l, find known y.on = some l ∧ a ∈ l) := fun h => by
      obtain ⟨y, hy, h⟩ := ih h
      exact ⟨y, List.mem_cons_of_mem _ hy, h⟩
    simp only [ancOf] at h
    cases hb : binding x with
    | false => rw [hb] at h; exact up h
    | true =>
      cases hl : Nat.blt x.on j with
      | false => rw [hb, hl] at h; exact up h
      | true =>
        rw [hb, hl] at h
        simp only at h
        have hlt : x.on < j := Nat.le_of_ble_eq_true hl
        cases hf : find known x.on with
        | none =>
          rw [hf] at h
          rcases List.mem_cons.1 h with h | h
          · exact ⟨x, List.mem_cons_self, hb, hlt, .inl h⟩
          · exact up h
        | some l =>
          rw [hf] at h
          rcases List.mem_append.1 h with h | h
          · rcases List.mem_cons.1 h with h | h
            · exact ⟨x, List.mem_cons_self, hb, hlt, .inl h⟩
            · exact ⟨x, List.mem_cons_self, hb, hlt, .inr ⟨l, hf, h⟩⟩
          · exact up h
theorem ancs_spec : ∀ (rest : List Oper) (j : Nat) (known : List (Nat × List Nat)), (∀ i, j ≤ i → find known i = none) →
    (∀ i, i < j → find (ancs j rest known) i = find known i) ∧ (∀ i l, find (ancs j rest known) i = some l → j ≤ i → ∃ o, rest[i - j]? = some o ∧ ∀ a ∈ l, ∃ x ∈ o.after.toList, binding x = true ∧ x.on < i ∧ (a = x.on ∨ ∃ l', find (ancs j rest known) x.on = some l' ∧ a ∈ l'))
  | [], j, known, hk => ⟨fun _ _ => rfl, fun i l h hi => by simp only [ancs] at h; rw [hk i hi] at h; cases h⟩
  | o :: r, j, known, hk => by
    simp only [ancs]
    have hk' : ∀ i, j + 1 ≤ i → find ((j, ancOf j known o.after.toList) :: known) i = none := fun i hi => by
      rw [find_cons, if_neg (by omega)]
      exact hk i (by omega)
    obtain ⟨h1, h2⟩ := ancs_spec r (j + 1) _ hk'
    refine ⟨fun i hi => ?_, fun i l h hi => ?_⟩
    · rw [h1 i (by omega), find_cons, if_neg (by omega)]
    · by_cases hij : i = j
      · subst hij
        have hf := h1 i (by omega)
        rw [h, find_cons, if_pos rfl] at hf
        obtain rfl := Option.some.inj hf
        refine ⟨o, by simp, fun a ha => ?_⟩
        obtain ⟨x, hx, hb, hlt, hc⟩ := ancOf_spec _ a ha
        refine ⟨x, hx, hb, hlt, hc.imp id fun ⟨l', hl', ha'⟩ => ⟨l', ?_, ha'⟩⟩
        rw [h1 x.on (by omega), find_cons, if_neg (by omega)]
        exact hl'
      · obtain ⟨o', ho', ha⟩ := h2 i l h (by omega)
        refine ⟨o', ?_, ha⟩
        have e1 : i - j = (i - (j + 1)) + 1 := by omega
        rw [e1, List.getElem?_cons_succ]
        exact ho'
/-- What comes ahead of an operation whose edges are met is done. -/
theorem anc_done {all : List Oper} {L : Nat → Prop} (hL : ∀ j o, all[j]? = some o → L j → ∀ x ∈ o.after.toList, binding x = true → L x.on) :
    ∀ (j : Nat) (l : List Nat), find (ancs 0 all []) j = some l → (∀ o, all[j]? = some o → ∀ x ∈ o.after.toList, binding x = true → L x.on) → ∀ a ∈ l, L a := by
  obtain ⟨_, h2⟩ := ancs_spec all 0 [] (fun i _ => rfl)
  intro j
  induction j using Nat.strongRecOn with
  | _ j ih =>
    intro l hl he a ha
    obtain ⟨o, ho, hx⟩ := h2 j l hl (Nat.zero_le _)
    rw [Nat.sub_zero] at ho
    obtain ⟨x, hxm, hb, hlt, hc⟩ := hx a ha
    have hLx := he o ho x hxm hb
    rcases hc with rfl | ⟨l', hl', ha'⟩
    · exact hLx
    · exact ih x.on hlt l' hl' (fun o' ho' y hy hby => hL x.on o' ho' hLx y hy hby) a ha'

/-! ### slots -/
theorem tmpsOf_mem {t : Nat} : ∀ {l : List Operand}, t ∈ tmpsOf l ↔ .tmp t ∈ l
  | [] => by simp [tmpsOf]
  | o :: r => by
    have ih := tmpsOf_mem (t := t) (l := r)
    cases o <;> simp [tmpsOf, ih]
theorem looks_ops {all : List Oper} {o : Oper} {t : Nat} (h : t ∈ tmpsOf o.op.operands.toList) : t ∈ looks all o := by
  unfold looks
  split
  · exact h
  · split
    · split
      · exact List.mem_cons_of_mem _ h
      · exact h
    · exact h
theorem looks_guard {all : List Oper} {o p : Oper} {g s : Nat} {want : Bool} (h1 : o.guard = some (g, want)) (h2 : nth all g = some p) (h3 : p.dst = some s) : s ∈ looks all o := by
  unfold looks
  rw [h1]
  simp only [h2, h3]
  exact List.mem_cons_self
theorem dstIn_false {d : Option Nat} {l : List Nat} (h : dstIn d l = false) : ∀ t, d = some t → t ∉ l := by
  intro t ht hm
  subst ht
  simp only [dstIn] at h
  rw [(memN_iff l t).2 hm] at h
  cases h
theorem slotsApart_spec {all : List Oper} {x y : Oper} (h : slotsApart all x y = true) : (∀ t, x.dst = some t → t ∉ looks all y) ∧ (∀ t, y.dst = some t → t ∉ looks all x) ∧ ∀ t, x.dst = some t → y.dst ≠ some t := by
  unfold slotsApart at h
  cases h1 : dstIn x.dst (looks all y) with
  | true => simp [h1] at h
  | false =>
    cases h2 : dstIn y.dst (looks all x) with
    | true => simp [h1, h2] at h
    | false =>
      cases h3 : dstEq x.dst y.dst with
      | true => simp [h1, h2, h3] at h
      | false =>
        refine ⟨dstIn_false h1, dstIn_false h2, fun t ht hy => ?_⟩
        rw [ht, hy] at h3
        simp [dstEq] at h3
theorem pairsOk_spec {all : List Oper} {y : Oper} {anc : List Nat} : ∀ (l : List Oper) (k0 : Nat), pairsOk all y anc k0 l = true → ∀ k x, l[k]? = some x → k0 + k ∈ anc ∨ slotsApart all x y = true
  | [], _, _, k, x, h => by simp at h
  | z :: r, k0, h, k, x, hx => by
    have hr : (memN anc k0 = true ∨ slotsApart all z y = true) ∧ pairsOk all y anc (k0 + 1) r = true := by
      simp only [pairsOk] at h
      cases h1 : memN anc k0 with
      | true => rw [h1] at h; exact ⟨.inl rfl, h⟩
      | false =>
        rw [h1] at h
        simp only at h
        cases h2 : slotsApart all z y with
        | true => rw [h2] at h; exact ⟨.inr rfl, h⟩
        | false => simp [h2] at h
    cases k with
    | zero =>
      simp only [List.getElem?_cons_zero, Option.some.injEq] at hx
      subst hx
      exact hr.1.imp (memN_iff anc k0).1 id
    | succ k =>
      have := pairsOk_spec r (k0 + 1) hr.2 k x (by simpa using hx)
      rwa [show k0 + (k + 1) = k0 + 1 + k from by omega]
theorem edgesBack_spec {j : Nat} : ∀ {es : List Edge}, edgesBack j es = true → ∀ x ∈ es, binding x = true → x.on < j
  | [], _, x, h, _ => by simp at h
  | y :: r, h, x, hx, hb => by
    have hr : (binding y = true → y.on < j) ∧ edgesBack j r = true := by
      simp only [edgesBack] at h
      cases h1 : binding y with
      | false => rw [h1] at h; exact ⟨fun q => (by cases q), h⟩
      | true =>
        cases h2 : Nat.blt y.on j with
        | false => simp [h1, h2] at h
        | true => rw [h1, h2] at h; exact ⟨fun _ => Nat.le_of_ble_eq_true h2, h⟩
    rcases List.mem_cons.1 hx with e | e
    · subst e; exact hr.1 hb
    · exact edgesBack_spec hr.2 x e hb
theorem slotsOk_spec {all : List Oper} {an : List (Nat × List Nat)} : ∀ (rest : List Oper) (j : Nat), slotsOk all an j rest = true → ∀ i y, rest[i]? = some y →
    ∃ anc, find an (j + i) = some anc ∧ (∀ k x, k < j + i → all[k]? = some x → k ∈ anc ∨ slotsApart all x y = true) ∧ edgesBack (j + i) y.after.toList = true
  | [], _, _, i, y, h => by simp at h
  | z :: r, j, h, i, y, hy => by
    simp only [slotsOk] at h
    cases hf : find an j with
    | none => simp [hf] at h
    | some anc =>
      simp only [hf] at h
      cases h1 : pairsOk all z anc 0 (takeN j all) with
      | false => simp [h1] at h
      | true =>
        cases h2 : edgesBack j z.after.toList with
        | false => simp [h1, h2] at h
        | true =>
          simp only [h1, h2] at h
          cases i with
          | zero =>
            simp only [List.getElem?_cons_zero, Option.some.injEq] at hy
            subst hy
            refine ⟨anc, hf, fun k x hk hx => ?_, h2⟩
            have := pairsOk_spec _ _ h1 k x (by rw [takeN_eq, List.getElem?_take, if_pos (by omega)]; exact hx)
            rwa [Nat.zero_add] at this
          | succ i =>
            have := slotsOk_spec r (j + 1) h i y (by simpa using hy)
            rwa [show j + (i + 1) = j + 1 + i from by omega]

theorem apartN_spec : ∀ {l l' : List Nat}, apartN l l' = true → ∀ a ∈ l, a ∉ l'
  | [], _, _, a, h => by simp at h
  | b :: r, l', h, a, ha => by
    simp only [apartN] at h
    cases hm : memN l' b with
    | true => simp [hm] at h
    | false =>
      rw [hm] at h
      rcases List.mem_cons.1 ha with e | e
      · subst e
        intro hx
        rw [(memN_iff l' a).2 hx] at hm
        cases hm
      · exact apartN_spec h a e
theorem clear_spec {anc fp wr : List Nat} : ∀ {rs : List Rc}, clear anc fp wr rs = true → ∀ q ∈ rs, q.i ∈ anc ∨ (∀ a ∈ q.wr, a ∉ fp) ∧ ∀ a ∈ q.fp, a ∉ wr
  | [], _, q, h => by simp at h
  | p :: r, h, q, hq => by
    have hr : (p.i ∈ anc ∨ (∀ a ∈ p.wr, a ∉ fp) ∧ ∀ a ∈ p.fp, a ∉ wr) ∧ clear anc fp wr r = true := by
      simp only [clear] at h
      cases h1 : memN anc p.i with
      | true => rw [h1] at h; exact ⟨.inl ((memN_iff _ _).1 h1), h⟩
      | false =>
        rw [h1] at h
        simp only at h
        cases h2 : apartN p.wr fp with
        | false => simp [h2] at h
        | true =>
          cases h3 : apartN p.fp wr with
          | false => simp [h2, h3] at h
          | true => rw [h2, h3] at h; exact ⟨.inr ⟨apartN_spec h2, apartN_spec h3⟩, h⟩
    rcases List.mem_cons.1 hq with e | e
    · subst e; exact hr.1
    · exact clear_spec hr.2 q e
end Go.Ev
