/- Contracts and calls. -/
import Derived.Test.YticlnmiakaelkaaEvOp9
set_option linter.unusedSimpArgs false
set_option linter.unusedVariables false
set_option linter.unusedSectionVars false
namespace Go.Ev
open Go.RowKit (Below)

def PtrTo (w : World) (G : Nat → Prop) (t : Ty) (x : t.den) (v : Value) : Prop := ∃ b o cs, v = .pointer (some ⟨b, o, none⟩) ∧ b < w.heap.size ∧ CellsAt w b o cs ∧ Val w G t x cs
def CapsTo (w : World) (G : Nat → Prop) : (ts : List Ty) → dens ts → List Value → Prop
  | [], _, l => l = []
  | t :: r, x, v :: l => PtrTo w G t x.1 v ∧ CapsTo w G r x.2 l
  | _ :: _, _, [] => False
def Arg (w : World) (G : Nat → Prop) : (a : AT) → a.den → Value → Prop
  | .val t, x, v => ∃ cs, Val w G t x cs ∧ AsVal t cs v
  | .ptr t, x, v => PtrTo w G t x v
  | .clo f ts, x, v => ∃ cv : List Value, v = .func (.func f) #[] cv.toArray ∧ CapsTo w G ts x cv
def Args (w : World) (G : Nat → Prop) : (as : List AT) → ATs.den as → List Value → Prop
  | [], _, l => l = []
  | a :: r, x, v :: l => Arg w G a x.1 v ∧ Args w G r x.2 l
  | _ :: _, _, [] => False
def Res1 (w : World) (G : Nat → Prop) (t : Ty) (x : t.den) (v : Value) : Prop := ∃ cs, Val w G t x cs ∧ AsVal t cs v
def Ress (w : World) (G : Nat → Prop) : (ts : List Ty) → den1 ts → List Value → Prop
  | [], _, l => l = []
  | [t], x, l => ∃ v, l = [v] ∧ Res1 w G t x v
  | t :: u :: r, x, l => ∃ v l', l = v :: l' ∧ Res1 w G t x.1 v ∧ Ress w G (u :: r) x.2 l'
/-- Results as one value. -/
def asRes : List Value → Value
  | [v] => v
  | l => .tuple l.toArray

/-- What views may lead to behind a call: what they might ahead of it, and what is new. -/
def grown (G : Nat → Prop) (w w' : World) : Nat → Prop := fun b => G b ∨ (w.heap.size ≤ b ∧ b < w'.heap.size)

/-- THE CONTRACT, in worlds that have grown out of w0: where the function answers, the call returns, the answer is the value, no old block has turned. -/
def ConOk (P : Program) (w0 : World) (f : Nat) (c : Con) : Prop :=
  ∀ (k : Nat) (x : ATs.den c.args) (r : den1 c.res) (w : World) (G : Nat → Prop) (args : List Value), Below w0.heap.size w0 w → (∀ b, G b → b < w.heap.size) → c.fn k x = some r → Args w G c.args x args →
    Calls P f args.toArray w fun e w' => ∃ l, e = .returned (asRes l) ∧ Below w.heap.size w w' ∧ Ress w' (grown G w w') c.res r l
def Enters' (P : Program) (f : Nat) : Prop := ∀ args w, (callFunc f args).run P w = .ok (.enter f args) w
def DelOk (P : Program) (w0 : World) (Δ : List (Nat × Con)) : Prop := ∀ f c, (f, c) ∈ Δ → ConOk P w0 f c ∧ Enters' P f
theorem ConOk.later {P : Program} {w0 w : World} {f : Nat} {c : Con} (h : ConOk P w0 f c) (hb : Below w0.heap.size w0 w) : ConOk P w f c := fun k x r w' G args hb' => h k x r w' G args (hb.trans (hb'.mono hb.size))
theorem DelOk.later {P : Program} {w0 w : World} {Δ : List (Nat × Con)} (h : DelOk P w0 Δ) (hb : Below w0.heap.size w0 w) : DelOk P w Δ := fun f c hm => ⟨(h f c hm).1.later hb, (h f c hm).2⟩

theorem Ress.sv {m : St} : ∀ {ts : List Ty} {x : den1 ts} {l : List Value}, Ress m.w m.G ts x l → Sv m (resAll ts x) (asRes l)
  | [], _, l, h => by
    simp only [Ress] at h
    subst h
    exact ⟨[], rfl, trivial⟩
  | [t], x, l, ⟨v, e, cs, hv, ha⟩ => by
    subst e
    exact sv_ofTy hv ha
  | t :: u :: r, x, l, h => by
    have key : ∀ (ts : List Ty) (x : den1 ts) (l : List Value), Ress m.w m.G ts x l → R2 (Pv m) (svs ts x) l ∧ l.length = ts.length := by
      intro ts
      induction ts with
      | nil => intro x l h; simp only [Ress] at h; subst h; exact ⟨trivial, rfl⟩
      | cons t ts ih =>
        have one : ∀ (x : t.den) (v : Value), Res1 m.w m.G t x v → Pv m (t.isAgg, enc t x []) v := by
          intro x v ⟨cs, hv, ha⟩
          have he := Val.enc (m := m) hv
          unfold AsVal at ha
          cases hg : t.isAgg with
          | true =>
            rw [hg] at ha
            exact .inl ⟨rfl, cs, ha, he⟩
          | false =>
            rw [hg] at ha
            simp only at ha
            subst ha
            cases hE : enc t x [] with
            | nil => rw [hE] at he; exact absurd he (by simp [R2])
            | cons a l =>
              rw [hE] at he
              cases l with
              | nil => exact .inr ⟨rfl, a, rfl, he.1⟩
              | cons b l => exact absurd he.2 (by simp [R2])
        cases ts with
        | nil =>
          intro x l ⟨v, e, h⟩
          subst e
          exact ⟨⟨one x v h, trivial⟩, rfl⟩
        | cons u r =>
          intro x l ⟨v, l', e, h1, h2⟩
          subst e
          obtain ⟨g1, g2⟩ := ih x.2 l' h2
          exact ⟨⟨one x.1 v h1, g1⟩, by simp [g2]⟩
    obtain ⟨g1, g2⟩ := key _ x l h
    refine ⟨l, ?_, g1⟩
    match l, g2 with
    | a :: b :: l, _ => rfl
theorem Ress.flat {w w' : World} {G G' : Nat → Prop} : ∀ {ts : List Ty} {x : den1 ts} {l : List Value}, flatAll ts = true → Ress w G ts x l → Ress w' G' ts x l
  | [], _, _, _, h => h
  | [t], x, l, hf, ⟨v, e, cs, hv, ha⟩ => by
    simp only [flatAll, Bool.and_true] at hf
    exact ⟨v, e, cs, Val.flat hf hv, ha⟩
  | t :: u :: r, x, l, hf, ⟨v, l', e, ⟨cs, hv, ha⟩, h2⟩ => by
    simp only [flatAll, Bool.and_eq_true] at hf
    exact ⟨v, l', e, ⟨cs, Val.flat hf.1 hv, ha⟩, Ress.flat (by simp only [flatAll, Bool.and_eq_true]; exact hf.2) h2⟩

section
variable {P : Program} {w0 : World} {G0 : Nat → Prop} {N : Nat} {F : List (Nat × Obj)} {m : St} {e : Env} {tm : Array Value} {Γ : Tab} {ρ : Type} {os : List (Nat × Obj)} {st : Bool} {Gd : Nat → Prop}

theorem heap_lt {w : World} {b : Nat} {o : Go.Obj} (h : w.heap[b]? = some o) : b < w.heap.size := (Array.getElem?_eq_some_iff.1 h).1

section
variable (ho : ∀ i o, find os i = some o → Ob m i o) (hG : ∀ b, m.G b → Gd b) (hL : ∀ b, m.H b → b < m.w.heap.size)
    (hR : st = false → ∀ i T u xs a n c, find os i = some (.row T u xs) → m.ν i = .slice (some a) n c → Gd a.block)
include ho hG hL hR

theorem varTy_sound {t : Ty} {x : t.den} {id : Nat} {v : Value} (h : varTy st os t id = some x) (hv : v = .pointer (some ⟨m.β id, 0, none⟩)) : PtrTo m.w Gd t x v := by
  unfold varTy at h
  cases hf : find os id with
  | none => simp [hf] at h
  | some o =>
    have hob := ho id o hf
    cases o with
    | var vs =>
      simp only [hf] at h
      obtain ⟨cs, T, hh, hr⟩ := hob
      exact ⟨m.β id, 0, cs, hv, heap_lt hh, cells_of_heap hh, decCells_val ho hG hR h hr⟩
    | _ => simp [hf] at h
theorem capTy_sound {t : Ty} {x : t.den} {c : Cap} {v : Value} (h : capTy st os t c = some x) (hv : Cp m c v) : PtrTo m.w Gd t x v := by
  cases c with
  | loc id => exact varTy_sound ho hG hL hR h hv.2
  | el u y =>
    obtain ⟨b, o, cs, e, hH, hc, hval⟩ := hv
    exact ⟨b, o, cs, e, hL b hH, hc, Val.cast h (Val.mono (fun b hb => ⟨hG b hb, rfl⟩) _ _ _ hval)⟩
theorem bindCaps_sound : ∀ (ts : List Ty) (cs : List Cap) (x : dens ts) (l : List Value), bindCaps st os ts cs = some x → R2 (Cp m) cs l → CapsTo m.w Gd ts x l
  | [], [], x, l, h, hl => by
    cases l with
    | nil => rfl
    | cons => exact absurd hl (by simp [R2])
  | t :: r, c :: cs, x, l, h, hl => by
    cases l with
    | nil => exact absurd hl (by simp [R2])
    | cons v l =>
      obtain ⟨h1, h2⟩ := hl
      simp only [bindCaps] at h
      cases hx : capTy st os t c with
      | none => simp [hx] at h
      | some y =>
        cases hy : bindCaps st os r cs with
        | none => simp [hx, hy] at h
        | some z =>
          simp only [hx, hy, Option.some.injEq] at h
          subst h
          exact ⟨capTy_sound ho hG hL hR hx h1, bindCaps_sound r cs z l hy h2⟩
  | [], _ :: _, x, l, h, hl => by simp [bindCaps] at h
  | _ :: _, [], x, l, h, hl => by simp [bindCaps] at h
theorem bindArg_sound {a : AT} {x : a.den} {s : SV} {v : Value} (h : bindArg st os a s = some x) (hv : Sv m s v) : Arg m.w Gd a x v := by
  cases a with
  | val t =>
    simp only [bindArg] at h
    obtain ⟨cs, h1, h2⟩ := decAll_val ho hG hR h hv
    exact ⟨cs, h1, h2⟩
  | ptr t =>
    cases s with
    | one y =>
      cases y with
      | loc id off =>
        cases off with
        | zero => exact varTy_sound ho hG hL hR (by simpa only [bindArg] using h) hv.2
        | succ => simp [bindArg] at h
      | el u y off =>
        cases off with
        | zero =>
          simp only [bindArg] at h
          obtain ⟨b, o, cs, e, hH, hc, hval⟩ := hv
          exact ⟨b, o, cs, by simpa using e, hL b hH, hc, Val.cast h (Val.mono (fun b hb => ⟨hG b hb, rfl⟩) _ _ _ hval)⟩
        | succ => simp [bindArg] at h
      | _ => simp [bindArg] at h
    | _ => simp [bindArg] at h
  | clo f ts =>
    cases s with
    | one y =>
      cases y with
      | clo g caps =>
        simp only [bindArg] at h
        cases hb : Nat.beq f g with
        | false => simp [hb] at h
        | true =>
          simp only [hb] at h
          have := Nat.eq_of_beq_eq_true hb
          subst this
          obtain ⟨cv, e, hc⟩ := hv
          exact ⟨cv, e, bindCaps_sound ho hG hL hR ts caps x cv h hc⟩
      | _ => simp [bindArg] at h
    | _ => simp [bindArg] at h
theorem bindArgs_sound : ∀ (as : List AT) (vs : List SV) (x : ATs.den as) (l : List Value), bindArgs st os as vs = some x → R2 (Sv m) vs l → Args m.w Gd as x l
  | [], [], x, l, h, hl => by
    cases l with
    | nil => rfl
    | cons => exact absurd hl (by simp [R2])
  | a :: r, v :: vs, x, l, h, hl => by
    cases l with
    | nil => exact absurd hl (by simp [R2])
    | cons u l =>
      obtain ⟨h1, h2⟩ := hl
      simp only [bindArgs] at h
      cases hx : bindArg st os a v with
      | none => simp [hx] at h
      | some y =>
        cases hy : bindArgs st os r vs with
        | none => simp [hx, hy] at h
        | some z =>
          simp only [hx, hy, Option.some.injEq] at h
          subst h
          exact ⟨bindArg_sound ho hG hL hR hx h1, bindArgs_sound r vs z l hy h2⟩
  | [], _ :: _, x, l, h, hl => by simp [bindArgs] at h
  | _ :: _, [], x, l, h, hl => by simp [bindArgs] at h
end

theorem bnd_some {α ρ : Type} {x : Option α} {f : α → Option ρ} {r : ρ} (h : bnd x f = some r) : ∃ y, x = some y ∧ f y = some r := by
  cases x with
  | none => simp [bnd] at h
  | some y => exact ⟨y, rfl, h⟩

theorem call_sound {Δ : List (Nat × Con)} (hΔ : ∀ f c, (f, c) ∈ Δ → ConOk P w0 f c ∧ Enters' P f) {k f : Nat} {vs : List SV} {args : List Value} {K : SV → Env → Option ρ} {r : ρ} (hR : Rel w0 G0 N F m e tm) (hvs : R2 (Sv m) vs args)
    (h : evCall k f vs e K Δ = some r) : Enters' P f ∧ Calls P f args.toArray m.w fun en w' => ∃ v m' e' s, en = .returned v ∧ m'.w = w' ∧ Stp m e m' e' ∧ m'.D = m.D ∧ Rel w0 G0 N F m' e' tm ∧ Sv m' s v ∧ K s e' = some r := by
  induction Δ with
  | nil => simp [evCall] at h
  | cons p Δ ih =>
    obtain ⟨g, c⟩ := p
    have ih := ih fun f c hm => hΔ f c (List.mem_cons_of_mem _ hm)
    simp only [evCall] at h
    cases hg : Nat.beq f g with
    | false => rw [hg] at h; exact ih h
    | true =>
      have := Nat.eq_of_beq_eq_true hg
      subst this
      obtain ⟨hcon, hent⟩ := hΔ f c List.mem_cons_self
      rw [hg] at h
      simp only at h
      have hob : ∀ i o, find e.objs i = some o → Ob m i o := fun i o hi => (hR.obj i o hi).2
      cases hfl : flatAll c.res with
      | true =>
        rw [hfl] at h
        simp only at h
        cases hb : bindArgs false e.objs c.args vs with
        | none => rw [hb] at h; exact ih h
        | some x =>
          rw [hb] at h
          obtain ⟨y, hy, hK⟩ := bnd_some h
          refine ⟨hent, Calls.mono (hcon k x y m.w (fun b => b < m.w.heap.size) args hR.ok.base (fun _ h => h) hy (bindArgs_sound hob (fun b hb => hR.ok.liveG b hb) hR.ok.liveH (fun _ i T u xs ad n c' hi hν => ?_) _ _ _ _ hb hvs)) ?_⟩
          · exact (hR.ok.out i ad.block (blk_left (by simp [blk, hi, hν, Value.ownBlock]))).2.2.1
          · intro en w' ⟨l, e1, hbel, hres⟩
            have hle : m.le { m with w := w' } := ⟨fun b hb => ⟨hb, hbel.block b (hR.ok.liveG b hb)⟩, fun b hb => ⟨hb, hbel.block b (hR.ok.liveH b hb)⟩, fun _ h => h, fun _ _ => rfl, fun _ _ => rfl⟩
            refine ⟨asRes l, { m with w := w' }, e, _, e1, rfl, .same hle rfl rfl, rfl, hR.world hle (hR.ok.world hle (hR.ok.base.trans (hbel.mono hR.ok.base.size)) (fun i b hb => hbel.block b (hR.ok.out i b hb).2.2.1) (fun b hb => ⟨.inl hb, ?_⟩) (fun b hb => ⟨.inl hb, ?_⟩) hbel.size hR.ok.gh), Ress.sv (Ress.flat hfl hres), hK⟩
            · exact Nat.lt_of_lt_of_le (hR.ok.liveG b hb) hbel.size
            · exact Nat.lt_of_lt_of_le (hR.ok.liveH b hb) hbel.size
      | false =>
        rw [hfl] at h
        simp only at h
        cases hb : bindArgs true (e.freeze (reachAll e.objs vs)).objs c.args vs with
        | none => rw [hb] at h; exact ih h
        | some x =>
          rw [hb] at h
          obtain ⟨y, hy, hK⟩ := bnd_some h
          obtain ⟨m1, l1, hw1, hD1, hR1⟩ := hR.freeze (reachAll e.objs vs)
          have hvs1 : R2 (Sv m1) vs args := hvs.imp fun _ _ hx => Sv.le l1 hx
          have hnx : (e.freeze (reachAll e.objs vs)).next = e.next := rfl
          have hsl : (e.freeze (reachAll e.objs vs)).slots = e.slots := rfl
          generalize e.freeze (reachAll e.objs vs) = e1 at hb hK hR1 hnx hsl
          have hob1 : ∀ i o, find e1.objs i = some o → Ob m1 i o := fun i o hi => (hR1.obj i o hi).2
          rw [← hw1]
          refine ⟨hent, Calls.mono (hcon k x y m1.w m1.G args hR1.ok.base hR1.ok.liveG hy (bindArgs_sound hob1 (fun b hb => hb) hR1.ok.liveH (fun h => by simp at h) _ _ _ _ hb hvs1)) ?_⟩
          intro en w' ⟨l, e2, hbel, hres⟩
          let m2 : St := { m1 with w := w', G := grown m1.G m1.w w', H := grown m1.H m1.w w' }
          have hle : m1.le m2 := ⟨fun b hb => ⟨.inl hb, hbel.block b (hR1.ok.liveG b hb)⟩, fun b hb => ⟨.inl hb, hbel.block b (hR1.ok.liveH b hb)⟩, fun _ h => h, fun _ _ => rfl, fun _ _ => rfl⟩
          have gr : ∀ {A : Nat → Prop}, (∀ b, A b → b < m1.w.heap.size) → ∀ b, grown A m1.w w' b → (A b ∨ m1.w.heap.size ≤ b) ∧ b < w'.heap.size := by
            intro A hA b hb
            rcases hb with hb | ⟨h1, h2⟩
            · exact ⟨.inl hb, Nat.lt_of_lt_of_le (hA b hb) hbel.size⟩
            · exact ⟨.inr h1, h2⟩
          refine ⟨asRes l, m2, e1, _, e2, rfl, .same (l1.trans hle) hD1 hnx hsl, hD1, hR1.world hle (hR1.ok.world hle (hR1.ok.base.trans (hbel.mono hR1.ok.base.size)) (fun i b hb => hbel.block b (hR1.ok.out i b hb).2.2.1) (gr hR1.ok.liveG) (gr hR1.ok.liveH) hbel.size fun b hb => hb.imp (hR1.ok.gh b) id), Ress.sv hres, hK⟩
end
end Go.Ev
