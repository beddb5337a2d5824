/- A body's code. -/
import Derived.Test.YticlnmiakaelkaaEvPack2
set_option linter.unusedSimpArgs false
set_option linter.unusedVariables false
namespace Go.Ev
open Go.RowKit (Below)

theorem wp_loop_fuel {P : Program} {Q : Exit → Act → World → Prop} {c : Code} (I : Nat → Act → World → Prop)
    (round : ∀ n a w, I n a w → c.wp P (Exit.then (fun a' w' => ∃ n', n' < n ∧ I n' a' w') Q) a w) {n : Nat} {a : Act} {w : World} (h₀ : I n a w) : (Code.loop c).wp P Q a w := by
  intro b k cs
  have key : ∀ n a w, I n a w → ∃ e a' w', Q e a' w' ∧ Arrives P (lone (b.at a (.code c :: .inLoop c :: k)) cs w) b k cs e a' w' := by
    intro n
    induction n using Nat.strongRecOn with
    | _ n ih =>
      intro a w hI
      obtain ⟨e, a₁, w₁, hq, harr⟩ := round n a w hI b (.inLoop c :: k) cs
      cases e with
      | normal =>
        obtain ⟨n', hlt, hI₁⟩ := hq
        obtain ⟨e₂, a₂, w₂, hq₂, harr₂⟩ := ih n' hlt a₁ w₁ hI₁
        exact ⟨e₂, a₂, w₂, hq₂, .of_steps (Steps.trans harr (.one step_inLoop)) harr₂⟩
      | exit id => exact ⟨_, a₁, w₁, hq, .pass (x := .inLoop c) rfl (fun _ _ => .inl (by simp)) harr⟩
      | goto l => exact ⟨_, a₁, w₁, hq, .pass (x := .inLoop c) rfl (fun _ _ => .inl (by simp)) harr⟩
      | ret => exact ⟨_, a₁, w₁, hq, .pass (x := .inLoop c) rfl (fun _ _ => .inl (by simp)) harr⟩
      | panic ch => exact ⟨_, a₁, w₁, hq, .pass (x := .inLoop c) rfl (fun _ _ => .inl (by simp)) harr⟩
      | outgrown => exact ⟨_, a₁, w₁, hq, .pass (x := .inLoop c) rfl (fun _ _ => .inl (by simp)) harr⟩
  obtain ⟨e, a', w', hq, harr⟩ := key n a w h₀
  exact ⟨e, a', w', hq, .of_steps (.one step_loop) harr⟩

def allDst (N : Nat) : List Oper → Bool
  | [] => true
  | o :: r => match dstOk N o.dst with
    | true => allDst N r
    | false => false
theorem allDst_mem {N : Nat} : ∀ {l : List Oper}, allDst N l = true → ∀ o ∈ l, dstOk N o.dst = true
  | [], _, o, h => by simp at h
  | p :: r, h, o, hm => by
    simp only [allDst] at h
    cases hp : dstOk N p.dst with
    | false => simp [hp] at h
    | true =>
      simp only [hp] at h
      rcases List.mem_cons.1 hm with e | e
      · subst e; exact hp
      · exact allDst_mem h o e
def codeDst (N : Nat) : Code → Bool
  | .region _ ops _ => allDst N ops.toList
  | .seq a b => match codeDst N a with
    | true => codeDst N b
    | false => false
  | .cond _ a b => match codeDst N a with
    | true => codeDst N b
    | false => false
  | .block _ c => codeDst N c
  | .loop c => codeDst N c
  | .scope c => codeDst N c
  | _ => true
theorem both {a b : Bool} (h : (match a with
    | true => b
    | false => false) = true) : a = true ∧ b = true := by cases a <;> cases b <;> simp_all

/-- What is known at an end of a piece of code. -/
def Post (w0 : World) (G0 : Nat → Prop) (N : Nat) {ρ σ : Type} (fin : Env → Option ρ) (ι : ρ → Option σ) (K : Ex → Env → Option σ) (r : σ) : Exit → Act → World → Prop
  | .normal, a, w => ∃ m e, m.w = w ∧ a.defers = [] ∧ Rel w0 G0 N [] m e a.tmps ∧ Fresh m e ∧ K .normal e = some r
  | .exit i, a, w => ∃ m e, m.w = w ∧ a.defers = [] ∧ Rel w0 G0 N [] m e a.tmps ∧ Fresh m e ∧ K (.exit i) e = some r
  | .ret, a, w => ∃ m e z, m.w = w ∧ a.defers = [] ∧ Rel w0 G0 N [] m e a.tmps ∧ fin e = some z ∧ ι z = some r
  | _, _, _ => False

/-- A region in any order. -/
def DrawSound (P : Program) (w0 : World) (Γ : Tab) (Δ : List (Nat × Con)) : Prop := ∀ {G0 : Nat → Prop} {N : Nat} {m : St} {e : Env} {tm : Array Value} {k id : Nat} {ρ : Type} {ops : Array Oper} {K : Env → Option ρ} {r : ρ} {Q : Exit → Act → World → Prop},
    (∀ o ∈ ops.toList, dstOk N o.dst = true) → slotsOk ops.toList (ancs 0 ops.toList []) 0 ops.toList = true → Rel w0 G0 N [] m e tm → Fresh m e → evOpsD Γ Δ k ops.toList (ancs 0 ops.toList []) ops.toList 0 [] e K = some r →
    (∀ m' e' tm', Rel w0 G0 N [] m' e' tm' → Fresh m' e' → K e' = some r → Q .normal ⟨tm', []⟩ m'.w) → (Code.region id ops true).wp P Q ⟨tm, []⟩ m.w

section
variable {P : Program} {w0 : World} {G0 : Nat → Prop} {N : Nat} {Γ : Tab} {Δ : List (Nat × Con)} {A : Ann} {ρ : Type} {fin : Env → Option ρ}

theorem toJoin_some {σ : Type} {its : List Item} {e : Env} {f : Items.den its → Option σ} {r : σ} (h : toJoin its e f = some r) : ∃ y, pack e its = some y ∧ f y = some r := by
  unfold toJoin at h
  cases hp : pack e its with
  | none => simp [hp] at h
  | some y => simp only [hp] at h; exact ⟨y, rfl, h⟩

theorem act_eta {a : Act} (h : a.defers = []) : a = ⟨a.tmps, []⟩ := by cases a; simp only at h; subst h; rfl

/-- A piece of code is sound. -/
def Sound (P : Program) (w0 : World) (G0 : Nat → Prop) (N : Nat) {ρ : Type} (fin : Env → Option ρ) (c : Code) (run : Run ρ) : Prop :=
  ∀ {σ : Type} (ι : ρ → Option σ) (K : Ex → Env → Option σ) (e : Env) (r : σ) (m : St) (tm : Array Value), Rel w0 G0 N [] m e tm → Fresh m e → run ι e K = some r → c.wp P (Post w0 G0 N fin ι K r) ⟨tm, []⟩ m.w

theorem loopQ_sound {id : Nat} {its js : List Item} {body : Code} {run : Nat → Run ρ} (hb : ∀ k, Sound P w0 G0 N fin body (run k)) {k : Nat} {x : Items.den its} {y : Items.den js} {tm : Array Value} {w : World} (hx : Packed w0 G0 N w its x tm)
    (h : loopQ id its js run k x = some y) {Q : Exit → Act → World → Prop} (hQ : ∀ tm' w', Packed w0 G0 N w' js y tm' → Q .normal ⟨tm', []⟩ w') : (Code.block id (.loop body)).wp P Q ⟨tm, []⟩ w := by
  refine wp_block (wp_loop_fuel (fun n a w => a.defers = [] ∧ ∃ x, Packed w0 G0 N w its x a.tmps ∧ loopQ id its js run n x = some y) ?_ (n := k) ⟨rfl, x, hx, h⟩)
  intro n a w ⟨hd, x, hx, h⟩
  cases n with
  | zero => simp [loopQ] at h
  | succ n =>
    simp only [loopQ, stepQ] at h
    obtain ⟨m, hw, hR, hf⟩ := unpack_sound hx
    rw [act_eta hd, ← hw]
    refine wp_mono (hb n _ _ _ _ m a.tmps hR hf h) ?_
    intro ex a' w' hp
    cases ex with
    | normal =>
      obtain ⟨m', e', rfl, hd', hR', hf', hK⟩ := hp
      obtain ⟨x', hp', hl⟩ := toJoin_some hK
      exact ⟨n, Nat.lt_succ_self n, hd', x', pack_sound hR' hp', hl⟩
    | exit i =>
      obtain ⟨m', e', rfl, hd', hR', hf', hK⟩ := hp
      simp only at hK
      cases hi : Nat.beq i id with
      | false => simp [hi] at hK
      | true =>
        simp only [hi] at hK
        have := Nat.eq_of_beq_eq_true hi
        subst this
        obtain ⟨y', hp', hl⟩ := toJoin_some hK
        obtain rfl := Option.some.inj hl
        simp only [Exit.then, Exit.inBlock, if_pos]
        rw [act_eta hd']
        exact hQ _ _ (pack_sound hR' hp')
    | ret =>
      obtain ⟨m', e', z, _, _, _, _, hz⟩ := hp
      simp at hz
    | _ => exact hp.elim

theorem loopR_sound {id : Nat} {its js : List Item} {body : Code} {run : Nat → Run ρ} (hb : ∀ k, Sound P w0 G0 N fin body (run k)) {k : Nat} {x : Items.den its} {y : Items.den js ⊕ ρ} {tm : Array Value} {w : World} (hx : Packed w0 G0 N w its x tm)
    (h : loopR id its js run k x = some y) {Q : Exit → Act → World → Prop} (hQ : ∀ z, y = .inl z → ∀ tm' w', Packed w0 G0 N w' js z tm' → Q .normal ⟨tm', []⟩ w')
    (hQr : ∀ z, y = .inr z → ∀ m e tm', Rel w0 G0 N [] m e tm' → fin e = some z → Q .ret ⟨tm', []⟩ m.w) : (Code.block id (.loop body)).wp P Q ⟨tm, []⟩ w := by
  refine wp_block (wp_loop_fuel (fun n a w => a.defers = [] ∧ ∃ x, Packed w0 G0 N w its x a.tmps ∧ loopR id its js run n x = some y) ?_ (n := k) ⟨rfl, x, hx, h⟩)
  intro n a w ⟨hd, x, hx, h⟩
  cases n with
  | zero => simp [loopR] at h
  | succ n =>
    simp only [loopR, stepR] at h
    obtain ⟨m, hw, hR, hf⟩ := unpack_sound hx
    rw [act_eta hd, ← hw]
    refine wp_mono (hb n _ _ _ _ m a.tmps hR hf h) ?_
    intro ex a' w' hp
    cases ex with
    | normal =>
      obtain ⟨m', e', rfl, hd', hR', hf', hK⟩ := hp
      obtain ⟨x', hp', hl⟩ := toJoin_some hK
      exact ⟨n, Nat.lt_succ_self n, hd', x', pack_sound hR' hp', hl⟩
    | exit i =>
      obtain ⟨m', e', rfl, hd', hR', hf', hK⟩ := hp
      simp only at hK
      cases hi : Nat.beq i id with
      | false => simp [hi] at hK
      | true =>
        simp only [hi] at hK
        have := Nat.eq_of_beq_eq_true hi
        subst this
        obtain ⟨y', hp', hl⟩ := toJoin_some hK
        simp only [Exit.then, Exit.inBlock, if_pos]
        rw [act_eta hd']
        exact hQ y' (Option.some.inj hl).symm _ _ (pack_sound hR' hp')
    | ret =>
      obtain ⟨m', e', z, rfl, hd', hR', hz, he⟩ := hp
      simp only [Exit.then, Exit.inBlock]
      rw [act_eta hd']
      exact hQr z (Option.some.inj he).symm m' e' _ hR' hz
    | _ => exact hp.elim

theorem loop_sound {id : Nat} {body : Code} (ih : ∀ k, Sound P w0 G0 N fin body (fun ι e K => evCode Γ Δ A fin body k ι e K)) (k : Nat) : Sound P w0 G0 N fin (.block id (.loop body)) (fun ι e K => evCode Γ Δ A fin (.block id (.loop body)) k ι e K) := by
    intro σ ι K e r m tm hR hf h
    simp only [evCode] at h
    cases hl : find A.loops id with
    | none => simp [hl] at h
    | some p =>
      obtain ⟨its, j⟩ := p
      simp only [hl] at h
      obtain ⟨x, hp, h⟩ := toJoin_some h
      cases hq : j.quiet with
      | true =>
        rw [hq] at h
        simp only at h
        obtain ⟨y, h1, h2⟩ := bnd_some h
        refine loopQ_sound (fun k => ih k) (pack_sound hR hp) h1 ?_
        intro tm' w' hpk
        obtain ⟨m2, hw, hR2, hf2⟩ := unpack_sound hpk
        exact ⟨m2, _, hw, rfl, hR2, hf2, h2⟩
      | false =>
        rw [hq] at h
        simp only at h
        obtain ⟨y, h1, h2⟩ := bnd_some h
        refine loopR_sound (fun k => ih k) (pack_sound hR hp) h1 ?_ ?_
        · intro z hz tm' w' hpk
          subst hz
          obtain ⟨m2, hw, hR2, hf2⟩ := unpack_sound hpk
          exact ⟨m2, _, hw, rfl, hR2, hf2, h2⟩
        · intro z hz m2 e2 tm' hR2 hfin
          subst hz
          exact ⟨m2, e2, z, rfl, rfl, hR2, hfin, h2⟩

theorem code_sound (hΓ : TabOk P Γ) (hΔ : DelOk P w0 Δ) (hD : DrawSound P w0 Γ Δ) : ∀ (c : Code), codeDst N c = true → ∀ k, Sound P w0 G0 N fin c (fun ι e K => evCode Γ Δ A fin c k ι e K)
  | .skip, hc, k, σ, ι, K, e, r, m, tm, hR, hf, h => wp_skip ⟨m, e, rfl, rfl, hR, hf, h⟩
  | .exit id, hc, k, σ, ι, K, e, r, m, tm, hR, hf, h => wp_exit ⟨m, e, rfl, rfl, hR, hf, h⟩
  | .ret, hc, k, σ, ι, K, e, r, m, tm, hR, hf, h => by
    simp only [evCode] at h
    cases hz : fin e with
    | none => simp [hz] at h
    | some z =>
      simp only [hz] at h
      exact wp_ret ⟨m, e, z, rfl, rfl, hR, hz, h⟩
  | .region id ops d, hc, k, σ, ι, K, e, r, m, tm, hR, hf, h => by
    simp only [evCode] at h
    simp only [codeDst] at hc
    cases d with
    | false =>
      simp only at h
      exact wp_region_list (ops_sound hΓ hΔ rfl (fun m' e' tm' hR' hf' hK => ⟨m', e', rfl, rfl, hR', hf', hK⟩) _ m e tm (allDst_mem hc) hR hf h)
    | true =>
      simp only at h
      cases hs : slotsOk ops.toList (ancs 0 ops.toList []) 0 ops.toList with
      | false => simp [hs] at h
      | true =>
        simp only [hs] at h
        exact hD (allDst_mem hc) hs hR hf h fun m' e' tm' hR' hf' hK => ⟨m', e', rfl, rfl, hR', hf', hK⟩
  | .seq a b, hc, k, σ, ι, K, e, r, m, tm, hR, hf, h => by
    simp only [codeDst] at hc
    obtain ⟨hca, hcb⟩ := both hc
    have iha : ∀ k, Sound P w0 G0 N fin a (fun ι e K => evCode Γ Δ A fin a k ι e K) := fun k {σ} ι K e r m tm => code_sound hΓ hΔ hD a hca k ι K e r m tm
    have ihb : ∀ k, Sound P w0 G0 N fin b (fun ι e K => evCode Γ Δ A fin b k ι e K) := fun k {σ} ι K e r m tm => code_sound hΓ hΔ hD b hcb k ι K e r m tm
    simp only [evCode] at h
    refine wp_seq ?_
    split at h
    · rename_i j hj
      unfold meet at h
      cases hq : j.quiet with
      | true =>
        rw [hq] at h
        simp only at h
        obtain ⟨y, h1, h2⟩ := bnd_some h
        refine wp_mono (iha k _ _ _ _ m tm hR hf h1) ?_
        intro ex a' w' hp
        cases ex with
        | normal =>
          obtain ⟨m', e', rfl, hd', hR', hf', hK⟩ := hp
          obtain ⟨y', hp', hl⟩ := toJoin_some hK
          obtain rfl := Option.some.inj hl
          obtain ⟨m2, hw, hR2, hf2⟩ := unpack_sound (pack_sound hR' hp')
          simp only [Exit.then]
          rw [act_eta hd', ← hw]
          exact ihb k _ _ _ _ m2 _ hR2 hf2 h2
        | exit i =>
          obtain ⟨m', e', _, _, _, _, hK⟩ := hp
          simp at hK
        | ret =>
          obtain ⟨m', e', z, _, _, _, _, hz⟩ := hp
          simp at hz
        | _ => exact hp.elim
      | false =>
        rw [hq] at h
        simp only at h
        obtain ⟨y, h1, h2⟩ := bnd_some h
        refine wp_mono (iha k _ _ _ _ m tm hR hf h1) ?_
        intro ex a' w' hp
        cases ex with
        | normal =>
          obtain ⟨m', e', rfl, hd', hR', hf', hK⟩ := hp
          obtain ⟨y', hp', hl⟩ := toJoin_some hK
          obtain rfl := Option.some.inj hl
          obtain ⟨m2, hw, hR2, hf2⟩ := unpack_sound (pack_sound hR' hp')
          simp only [Exit.then]
          rw [act_eta hd', ← hw]
          exact ihb k _ _ _ _ m2 _ hR2 hf2 h2
        | exit i =>
          obtain ⟨m', e', _, _, _, _, hK⟩ := hp
          simp at hK
        | ret =>
          obtain ⟨m', e', z, rfl, hd', hR', hz, he⟩ := hp
          obtain rfl := Option.some.inj he
          exact ⟨m', e', z, rfl, hd', hR', hz, h2⟩
        | _ => exact hp.elim
    · refine wp_mono (iha k _ _ _ _ m tm hR hf h) ?_
      intro ex a' w' hp
      cases ex with
      | normal =>
        obtain ⟨m', e', rfl, hd', hR', hf', hK⟩ := hp
        simp only [Exit.then]
        rw [act_eta hd']
        exact ihb k _ _ _ _ m' _ hR' hf' hK
      | exit i => exact hp
      | ret => exact hp
      | _ => exact hp.elim
  | .cond c a b, hc, k, σ, ι, K, e, r, m, tm, hR, hf, h => by
    simp only [codeDst] at hc
    obtain ⟨hca, hcb⟩ := both hc
    simp only [evCode] at h
    cases hx : e.one c with
    | none => simp [hx] at h
    | some v =>
      have hl := one_lv (a := ⟨tm, []⟩) hR hx
      cases v with
      | b x =>
        simp only [hx] at h
        simp only [Lv] at hl
        cases x with
        | true => exact wp_cond_true hl (code_sound hΓ hΔ hD a hca k _ _ _ _ m tm hR hf h)
        | false => exact wp_cond_false hl (code_sound hΓ hΔ hD b hcb k _ _ _ _ m tm hR hf h)
      | _ => simp [hx] at h
  | .block id (.loop body), hc, k, σ, ι, K, e, r, m, tm, hR, hf, h => by
    simp only [codeDst] at hc
    have ih : ∀ k, Sound P w0 G0 N fin body (fun ι e K => evCode Γ Δ A fin body k ι e K) := fun k {σ} ι K e r m tm => code_sound hΓ hΔ hD body hc k ι K e r m tm
    exact loop_sound ih k ι K e r m tm hR hf h
  | .block id body, hc, k, σ, ι, K, e, r, m, tm, hR, hf, h => by
    have hcb : codeDst N body = true := hc
    have ih : ∀ k, Sound P w0 G0 N fin body (fun ι e K => evCode Γ Δ A fin body k ι e K) := fun k {σ} ι K e r m tm => code_sound hΓ hΔ hD body hcb k ι K e r m tm
    have h' : (∃ b, body = .loop b) ∨ evCode Γ Δ A fin body k ι e (fun ex e' => match ex with
        | .normal => K .normal e'
        | .exit i => match Nat.beq i id with
          | true => K .normal e'
          | false => K (.exit i) e') = some r := by
      cases body <;> first
        | exact .inl ⟨_, rfl⟩
        | (right; simp only [evCode] at h; exact h)
    rcases h' with ⟨b, rfl⟩ | h'
    · exact loop_sound (fun k {σ} ι K e r m tm => code_sound hΓ hΔ hD b (by simp only [codeDst] at hcb; exact hcb) k ι K e r m tm) k ι K e r m tm hR hf h
    · refine wp_block (wp_mono (ih k _ _ _ _ m tm hR hf h') ?_)
      intro ex a' w' hp
      cases ex with
      | normal => exact hp
      | exit i =>
        obtain ⟨m', e', rfl, hd', hR', hf', hK⟩ := hp
        simp only at hK
        simp only [Exit.inBlock]
        cases hi : Nat.beq i id with
        | true =>
          have := Nat.eq_of_beq_eq_true hi
          simp only [hi] at hK
          rw [if_pos this]
          exact ⟨m', e', rfl, hd', hR', hf', hK⟩
        | false =>
          have hne : ¬ i = id := fun q => by subst q; simp at hi
          simp only [hi] at hK
          rw [if_neg hne]
          exact ⟨m', e', rfl, hd', hR', hf', hK⟩
      | ret => exact hp
      | _ => exact hp.elim
  | .loop c, hc, k, σ, ι, K, e, r, m, tm, hR, hf, h => by simp [evCode] at h
  | .scope c, hc, k, σ, ι, K, e, r, m, tm, hR, hf, h => by simp [evCode] at h
  | .label l, hc, k, σ, ι, K, e, r, m, tm, hR, hf, h => by simp [evCode] at h
  | .goto l, hc, k, σ, ι, K, e, r, m, tm, hR, hf, h => by simp [evCode] at h
end
end Go.Ev
