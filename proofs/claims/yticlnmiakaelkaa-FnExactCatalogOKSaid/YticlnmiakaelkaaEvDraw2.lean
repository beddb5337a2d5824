/- A region whose operations come in any order: what the evaluator has noted. -/
import Derived.Test.YticlnmiakaelkaaEvDraw
set_option linter.unusedSimpArgs false
set_option linter.unusedVariables false
namespace Go.Ev
open Go.RowKit (Below)

/-- What an operation was and did. -/
structure Tr where
  dst : Option Nat
  sv : SV
  did : Bool
  n : Nat
  fp : List Nat
  wr : List Nat
  out : Nat → Option Obj
def wS (x : Tr) : Nat → Option (Option SV) := fun t => if x.dst = some t then some (some x.sv) else none
def wO (x : Tr) : Nat → Option (Option Obj) := fun i => if x.did = true ∧ i ∈ x.n :: x.wr then some (x.out i) else none
def rcOf (j : Nat) (x : Tr) : Rc := ⟨j, x.n :: x.fp, x.n :: x.wr⟩
/-- Two operations do not meet, or the first comes ahead. -/
def Cl (an : List (Nat × List Nat)) (q : Rc) (j : Nat) (x : Tr) : Prop := ∃ anc, find an j = some anc ∧ (q.i ∈ anc ∨ (∀ a ∈ q.wr, a ∉ x.n :: x.fp) ∧ ∀ a ∈ q.fp, a ∉ x.n :: x.wr)

section
variable (Γ : Tab) (Δ : List (Nat × Con)) (k : Nat) (all : List Oper) (an : List (Nat × List Nat)) (n0 : Nat)

def Guarded (o : Oper) (S : Nat → Option SV) (ok : Bool → SV → Prop) : Prop := ∃ g want p s sv, o.guard = some (g, want) ∧ nth all g = some p ∧ p.dst = some s ∧ S s = some sv ∧ ok want sv
def Fact (j : Nat) (o : Oper) (x : Tr) (S : Nat → Option SV) (O : Nat → Option Obj) : Prop :=
  x.dst = o.dst ∧ x.n = n0 + j ∧
  ((x.did = true ∧ (o.guard = none ∨ Guarded all o S fun want sv => sv = .one (.b want)) ∧ (reads o.op = true ∧ x.wr = [] ∨ x.wr = x.fp) ∧
    ∃ E0 e1, (∀ t, find E0.slots t = if t ∈ tmpsOf o.op.operands.toList then S t else none) ∧ (∀ i, find E0.objs i = if i ∈ x.fp then O i else none) ∧ E0.next = x.n ∧ evOp Γ Δ k o.op E0 pr = some (x.sv, e1) ∧ x.out = find e1.objs) ∨
  (x.did = false ∧ x.sv = .tup [] ∧ Guarded all o S fun want sv => sv = .one (.b (!want)) ∨ sv = .tup []))
def TrS : Nat → List Oper → List Tr → (Nat → Option SV) → (Nat → Option Obj) → Prop
  | _, [], [], _, _ => True
  | j, o :: r, x :: xs, S, O => Fact Γ Δ k all n0 j o x S O ∧ TrS (j + 1) r xs (ovr (wS x) S) (ovr (wO x) O)
  | _, _, _, _, _ => False
end

section
variable {Γ : Tab} {Δ : List (Nat × Con)} {k : Nat} {all : List Oper} {an : List (Nat × List Nat)} {n0 : Nat} {ρ : Type}

theorem TrS.length : ∀ {l : List Oper} {T : List Tr} {j : Nat} {S : Nat → Option SV} {O : Nat → Option Obj}, TrS Γ Δ k all n0 j l T S O → T.length = l.length
  | [], [], _, _, _, _ => rfl
  | o :: r, x :: xs, _, _, _, h => by simp [TrS.length h.2]
  | [], _ :: _, _, _, _, h => by simp [TrS] at h
  | _ :: _, [], _, _, _, h => by simp [TrS] at h
theorem foldW_all_false {α : Type} {L : Nat → Bool} {T : List (Nat → Option (Option α))} {j : Nat} {S : Nat → Option α} (h : ∀ i, j ≤ i → L i = false) : foldW L j T S = S := by
  funext x
  exact foldW_none x T j S fun k f _ hL => by rw [h (j + k) (by omega)] at hL; cases hL
theorem TrS.get : ∀ {l : List Oper} {T : List Tr} {j : Nat} {S : Nat → Option SV} {O : Nat → Option Obj}, TrS Γ Δ k all n0 j l T S O → ∀ i o x, l[i]? = some o → T[i]? = some x →
    Fact Γ Δ k all n0 (j + i) o x (foldW (fun q => decide (q < j + i)) j (T.map wS) S) (foldW (fun q => decide (q < j + i)) j (T.map wO) O)
  | [], _, _, _, _, _, i, o, x, h, _ => by simp at h
  | o :: r, [], _, _, _, h, _, _, _, _, _ => by simp [TrS] at h
  | o :: r, x :: xs, j, S, O, h, 0, o', x', ho, hx => by
    simp only [List.getElem?_cons_zero, Option.some.injEq] at ho hx
    subst ho; subst hx
    rw [foldW_all_false (fun q hq => by simp; omega), foldW_all_false (fun q hq => by simp; omega)]
    exact h.1
  | o :: r, x :: xs, j, S, O, h, i + 1, o', x', ho, hx => by
    have := TrS.get h.2 i o' x' (by simpa using ho) (by simpa using hx)
    have e1 : j + (i + 1) = j + 1 + i := by omega
    rw [e1]
    have hj : decide (j < j + 1 + i) = true := by simp; omega
    simp only [List.map_cons, foldW, hj]
    exact this

theorem find_put (e : Env) (d : Option Nat) (sv : SV) : find (e.put d sv).slots = ovr (fun t => if d = some t then some (some sv) else none) (find e.slots) := by
  funext t
  cases d with
  | none => simp [Env.put, ovr]
  | some d =>
    simp only [Env.put, Env.set, find_cons, ovr, Option.some.injEq]
    by_cases h : d = t
    · simp [h]
    · simp [h]

/-- One operation, noted. -/
theorem note (o : Oper) {j : Nat} {rs : List Rc} {e : Env} {r : ρ} {K : List Rc → Env → Option ρ} (hn : e.next = n0 + j) (hg : o.guard = none ∨ Guarded all o (find e.slots) fun want sv => sv = .one (.b want))
    (h : evOpD Γ Δ k an o j rs e K = some r) : ∃ x e', Fact Γ Δ k all n0 j o x (find e.slots) (find e.objs) ∧ x.did = true ∧ (∀ q ∈ rs, Cl an q j x) ∧ K (rcOf j x :: rs) e' = some r ∧ find e'.slots = ovr (wS x) (find e.slots) ∧ find e'.objs = ovr (wO x) (find e.objs) ∧ e'.next = n0 + (j + 1) := by
  unfold evOpD at h
  rw [evOp_nat] at h
  generalize hE : (⟨only (tmpsOf o.op.operands.toList) e.slots, only (foot e o.op.operands.toList) e.objs, e.next⟩ : Env) = E0 at h
  cases hev : evOp Γ Δ k o.op E0 pr with
  | none => simp [hev] at h
  | some p =>
    obtain ⟨sv, e1⟩ := p
    rw [hev] at h
    simp only [Option.bind_some] at h
    generalize hfp : foot e o.op.operands.toList = fp at h hE
    cases ha : find an j with
    | none => simp [ha] at h
    | some anc =>
      simp only [ha] at h
      cases hc : clear anc (e.next :: fp) (e.next :: wrOf o.op fp) rs with
      | false => simp [hc] at h
      | true =>
        simp only [hc] at h
        have hcl := clear_spec hc
        let x : Tr := ⟨o.dst, sv, true, e.next, fp, wrOf o.op fp, find e1.objs⟩
        refine ⟨x, _, ⟨rfl, hn, .inl ⟨rfl, hg, ?_, E0, e1, ?_, ?_, ?_, hev, rfl⟩⟩, rfl, fun q hq => ⟨anc, ha, hcl q hq⟩, h, ?_, ?_, ?_⟩
        · simp only [x, wrOf]
          cases reads o.op with
          | true => exact .inl ⟨rfl, rfl⟩
          | false => exact .inr rfl
        · intro t
          rw [← hE]
          exact find_only _ _ _
        · intro i
          rw [← hE]
          exact find_only _ _ _
        · rw [← hE]
        · exact find_put _ _ _
        · rw [put_objs]
          funext i
          simp only [find_mix, ovr, wO, x, true_and]
          by_cases hi : i ∈ e.next :: wrOf o.op fp
          · simp only [hi, if_true]
          · simp only [hi, if_false]
        · rw [put_next]
          show e.next + 1 = _
          omega
/-- One operation, left out. -/
theorem noteSkip (o : Oper) {j : Nat} {e : Env} (hn : e.next = n0 + j) (hg : Guarded all o (find e.slots) fun want sv => sv = .one (.b (!want)) ∨ sv = .tup []) :
    ∃ x, Fact Γ Δ k all n0 j o x (find e.slots) (find e.objs) ∧ x.did = false ∧ find (skipD o e).slots = ovr (wS x) (find e.slots) ∧ find (skipD o e).objs = ovr (wO x) (find e.objs) ∧ (skipD o e).next = n0 + (j + 1) := by
  let x : Tr := ⟨o.dst, .tup [], false, n0 + j, [], [], fun _ => none⟩
  refine ⟨x, ⟨rfl, rfl, .inr ⟨rfl, rfl, hg⟩⟩, rfl, ?_, ?_, ?_⟩
  · unfold skipD
    exact find_put _ _ _
  · unfold skipD
    rw [put_objs]
    funext i
    simp [ovr, wO, x]
  · unfold skipD
    rw [put_next]
    show e.next + 1 = _
    omega

def Traced (Γ : Tab) (Δ : List (Nat × Con)) (k : Nat) (all : List Oper) (an : List (Nat × List Nat)) (n0 : Nat) (K : Env → Option ρ) (r : ρ) (l : List Oper) (j : Nat) (rs : List Rc) (S : Nat → Option SV) (O : Nat → Option Obj) : Prop :=
  ∃ T ef, TrS Γ Δ k all n0 j l T S O ∧ K ef = some r ∧ ef.next = n0 + (j + l.length) ∧ find ef.slots = foldW (fun _ => true) j (T.map wS) S ∧ find ef.objs = foldW (fun _ => true) j (T.map wO) O ∧
    (∀ q ∈ rs, ∀ i x, T[i]? = some x → x.did = true → Cl an q (j + i) x) ∧ ∀ i i' x x', i < i' → T[i]? = some x → T[i']? = some x' → x.did = true → x'.did = true → Cl an (rcOf (j + i) x) (j + i') x'
theorem trace {K : Env → Option ρ} {r : ρ} : ∀ (l : List Oper) (j : Nat) (rs : List Rc) (e : Env), e.next = n0 + j → evOpsD Γ Δ k all an l j rs e K = some r →
    Traced Γ Δ k all an n0 K r l j rs (find e.slots) (find e.objs)
  | [], j, rs, e, hn, h => ⟨[], e, trivial, h, by simpa using hn, rfl, rfl, fun q _ i x hx => by simp at hx, fun i i' x x' _ hx => by simp at hx⟩
  | o :: l, j, rs, e, hn, h => by
    -- what follows, joined to what was noted
    have join : ∀ (x : Tr) (rs' : List Rc) (e' : Env), Fact Γ Δ k all n0 j o x (find e.slots) (find e.objs) → (x.did = true → (∀ q ∈ rs, Cl an q j x) ∧ rcOf j x ∈ rs') → (∀ q ∈ rs, q ∈ rs') →
        find e'.slots = ovr (wS x) (find e.slots) → find e'.objs = ovr (wO x) (find e.objs) → e'.next = n0 + (j + 1) → evOpsD Γ Δ k all an l (j + 1) rs' e' K = some r →
        Traced Γ Δ k all an n0 K r (o :: l) j rs (find e.slots) (find e.objs) := by
      intro x rs' e' hF hd hrs hs ho hn' h'
      obtain ⟨T, ef, g1, g2, g3, g4, g5, g6, g7⟩ := trace l (j + 1) rs' e' hn' h'
      rw [hs, ho] at g1
      rw [hs] at g4
      rw [ho] at g5
      refine ⟨x :: T, ef, ⟨hF, g1⟩, g2, ?_, g4, g5, ?_, ?_⟩
      · rw [g3, List.length_cons]
        omega
      · intro q hq i y hy hdy
        cases i with
        | zero =>
          simp only [List.getElem?_cons_zero, Option.some.injEq] at hy
          subst hy
          exact (hd hdy).1 q hq
        | succ i =>
          have := g6 q (hrs q hq) i y (by simpa using hy) hdy
          rwa [show j + (i + 1) = j + 1 + i from by omega]
      · intro i i' y y' hlt hy hy' hdy hdy'
        cases i' with
        | zero => omega
        | succ i' =>
          cases i with
          | zero =>
            simp only [List.getElem?_cons_zero, Option.some.injEq] at hy
            subst hy
            have := g6 _ (hd hdy).2 i' y' (by simpa using hy') hdy'
            rwa [show j + (i' + 1) = j + 1 + i' from by omega]
          | succ i =>
            have := g7 i i' y y' (by omega) (by simpa using hy) (by simpa using hy') hdy hdy'
            rwa [show j + (i' + 1) = j + 1 + i' from by omega, show j + (i + 1) = j + 1 + i from by omega]
    have doit : ∀ e1 : Env, find e1.slots = find e.slots → find e1.objs = find e.objs → e1.next = e.next → (o.guard = none ∨ Guarded all o (find e1.slots) fun want sv => sv = .one (.b want)) →
        evOpD Γ Δ k an o j rs e1 (fun rs' e' => evOpsD Γ Δ k all an l (j + 1) rs' e' K) = some r → Traced Γ Δ k all an n0 K r (o :: l) j rs (find e.slots) (find e.objs) := fun e1 h1 h2 h3 hg h' => by
      obtain ⟨x, e', g1, g2, g3, g4, g5, g6, g7⟩ := note (all := all) o (h3.trans hn) hg h'
      rw [h1, h2] at g1
      rw [h1] at g5
      rw [h2] at g6
      exact join x _ e' g1 (fun _ => ⟨g3, List.mem_cons_self⟩) (fun q hq => List.mem_cons_of_mem _ hq) g5 g6 g7 g4
    have skip : ∀ e1 : Env, find e1.slots = find e.slots → find e1.objs = find e.objs → e1.next = e.next → (Guarded all o (find e1.slots) fun want sv => sv = .one (.b (!want)) ∨ sv = .tup []) →
        evOpsD Γ Δ k all an l (j + 1) rs (skipD o e1) K = some r → Traced Γ Δ k all an n0 K r (o :: l) j rs (find e.slots) (find e.objs) := fun e1 h1 h2 h3 hg h' => by
      obtain ⟨x, g1, g2, g5, g6, g7⟩ := noteSkip (Γ := Γ) (Δ := Δ) (k := k) (all := all) o (h3.trans hn) hg
      rw [h1, h2] at g1
      rw [h1] at g5
      rw [h2] at g6
      exact join x rs _ g1 (fun hd => by rw [g2] at hd; cases hd) (fun q hq => hq) g5 g6 g7 h'
    unfold evOpsD at h
    cases hg : o.guard with
    | none =>
      rw [hg] at h
      exact doit e rfl rfl rfl (.inl hg) h
    | some p =>
      obtain ⟨g, want⟩ := p
      rw [hg] at h
      simp only at h
      cases hj : nth all g with
      | none => simp [hj] at h
      | some p =>
        simp only [hj] at h
        cases hds : p.dst with
        | none => simp [hds] at h
        | some s =>
          simp only [hds] at h
          cases hs : e.get s with
          | none => simp [hs] at h
          | some sv =>
            have hs' : find e.slots s = some sv := hs
            cases sv with
            | agg l => simp [hs] at h
            | tup l =>
              cases l with
              | cons => simp [hs] at h
              | nil =>
                simp only [hs] at h
                exact skip e rfl rfl rfl ⟨g, want, p, s, _, hg, hj, hds, hs', .inr rfl⟩ h
            | one y =>
              cases y with
              | b z =>
                simp only [hs] at h
                have hset : find (e.set s (.one (.b z))).slots = find e.slots := by
                  funext t
                  simp only [Env.set, find_cons]
                  by_cases ht : s = t
                  · subst ht; rw [if_pos rfl, hs']
                  · rw [if_neg ht]
                have hgd : ∀ b : Bool, (b = want → z = b → (o.guard = none ∨ Guarded all o (find (e.set s (.one (.b z))).slots) fun want sv => sv = .one (.b want))) := fun b hb hz => .inr ⟨g, want, p, s, .one (.b z), hg, hj, hds, by rw [hset]; exact hs', by rw [hz, hb]⟩
                have hgs : z = !want → Guarded all o (find (e.set s (.one (.b z))).slots) fun want sv => sv = .one (.b (!want)) ∨ sv = .tup [] := fun hz => ⟨g, want, p, s, .one (.b z), hg, hj, hds, by rw [hset]; exact hs', .inl (by rw [hz])⟩
                cases z <;> cases want <;> simp only [br, cond] at h
                · exact doit _ hset rfl rfl (hgd false rfl rfl) h
                · exact skip _ hset rfl rfl (hgs rfl) h
                · exact skip _ hset rfl rfl (hgs rfl) h
                · exact doit _ hset rfl rfl (hgd true rfl rfl) h
              | _ => simp [hs] at h
end
end Go.Ev
