/- The evaluator and its soundness, part 4. -/
import Derived.Test.YticlnmiakaelkaaScEvC
section
/- Contracts. -/
set_option linter.unusedSimpArgs false
set_option linter.unusedVariables false
set_option linter.unusedSectionVars false
namespace Go.Ev
open Go.RowKit (Below)

def PtrH (w : World) (G H : Nat → Prop) (t : Ty) (x : t.den) (v : Value) : Prop := ∃ b o cs, v = .pointer (some ⟨b, o, none⟩) ∧ H b ∧ CellsAt w b o cs ∧ Val w G t x cs
def CapsH (w : World) (G H : Nat → Prop) : (ts : List Ty) → dens ts → List Value → Prop
  | [], _, l => l = []
  | t :: r, x, v :: l => PtrH w G H t x.1 v ∧ CapsH w G H r x.2 l
  | _ :: _, _, [] => False
def ArgH (w : World) (G H : Nat → Prop) : (a : AT) → a.den → Value → Prop
  | .val t, x, v => ∃ cs, Val w G t x cs ∧ AsVal t cs v
  | .ptr t, x, v => PtrH w G H t x v
  | .clo f ts, x, v => ∃ cv : List Value, v = .func (.func f) #[] cv.toArray ∧ CapsH w G H ts x cv
  | .srt _, _, _ | .var _, _, _ | .io _, _, _ | .own _, _, _ => False
def ArgsH (w : World) (G H : Nat → Prop) : (ats : List AT) → ATs.den ats → List Value → Prop
  | [], _, l => l = []
  | a :: r, x, v :: l => ArgH w G H a x.1 v ∧ ArgsH w G H r x.2 l
  | _ :: _, _, [] => False
abbrev PtrTo (w : World) (G : Nat → Prop) (t : Ty) (x : t.den) (v : Value) : Prop := PtrH w G (fun b => b < w.heap.size) t x v
abbrev CapsTo (w : World) (G : Nat → Prop) (ts : List Ty) (x : dens ts) (l : List Value) : Prop := CapsH w G (fun b => b < w.heap.size) ts x l
abbrev Arg (w : World) (G : Nat → Prop) (a : AT) (x : a.den) (v : Value) : Prop := ArgH w G (fun b => b < w.heap.size) a x v
abbrev Args (w : World) (G : Nat → Prop) (ats : List AT) (x : ATs.den ats) (l : List Value) : Prop := ArgsH w G (fun b => b < w.heap.size) ats x l
def Res1 (w : World) (G : Nat → Prop) (t : Ty) (x : t.den) (v : Value) : Prop := ∃ cs, Val w G t x cs ∧ AsVal t cs v
def Ress (w : World) (G : Nat → Prop) : (ts : List Ty) → den1 ts → List Value → Prop
  | [], _, l => l = []
  | [t], x, l => ∃ v, l = [v] ∧ Res1 w G t x v
  | t :: u :: r, x, l => ∃ v l', l = v :: l' ∧ Res1 w G t x.1 v ∧ Ress w G (u :: r) x.2 l'
/-- Results as one value. -/
def asRes : List Value → Value
  | [v] => v
  | l => .tuple l.toArray

/-- What views may lead to behind a call: what they might ahead of it, and what is new. -/
def grown (G : Nat → Prop) (w w' : World) : Nat → Prop := fun b => G b ∨ (w.heap.size ≤ b ∧ b < w'.heap.size)

/-- THE CONTRACT, in worlds that have grown out of w0: where the function answers, the call returns, the answer is the value, no old block has turned. -/
def ConOk (P : Program) (w0 : World) (f : Nat) (c : Con) : Prop :=
  ∀ (k : Nat) (x : ATs.den c.args) (r : den1 c.res) (w : World) (G : Nat → Prop) (args : List Value), Below w0.heap.size w0 w → (∀ b, G b → b < w.heap.size) → c.fn k x = some r → Args w G c.args x args →
    Calls P f args.toArray w fun e w' => ∃ l, e = .returned (asRes l) ∧ Below w.heap.size w w' ∧ Ress w' (grown G w w') c.res r l
def Enters' (P : Program) (f : Nat) : Prop := ∀ args w, (callFunc f args).run P w = .ok (.enter f args) w

/-! ### memory that is handed over -/
/-- What is asked of an argument; bl: the blocks that are handed over with it. -/
def ArgG (w : World) (G H : Nat → Prop) : (a : AT) → a.den → Value → List Nat → Prop
  | .var t, x, v, bl => ∃ b cs T bl', v = .pointer (some ⟨b, 0, none⟩) ∧ w.heap[b]? = some (.cells (List.toArray cs) T (0, 0)) ∧ Val w G t x cs ∧ Inn w G t x cs bl' ∧ bl = bl' ++ [b]
  | .io t, x, v, bl => ∃ cs, AsVal t cs v ∧ Val w G t x cs ∧ Inn w G t x cs bl
  | .own t, x, v, bl => ∃ cs, AsVal t cs v ∧ Val w G t x cs ∧ Inn w G t x cs bl
  | .val t, x, v, bl => bl = [] ∧ ArgH w G H (.val t) x v
  | .ptr t, x, v, bl => bl = [] ∧ ArgH w G H (.ptr t) x v
  | .clo f ts, x, v, bl => bl = [] ∧ ArgH w G H (.clo f ts) x v
  | .srt _, _, _, _ => False
def ArgsG (w : World) (G H : Nat → Prop) : (ats : List AT) → ATs.den ats → List Value → List Nat → Prop
  | [], _, l, bl => l = [] ∧ bl = []
  | a :: r, x, v :: l, bl => ∃ b1 b2, bl = b1 ++ b2 ∧ ArgG w G H a x.1 v b1 ∧ ArgsG w G H r x.2 l b2
  | _ :: _, _, [], _ => False
/-- What comes back. -/
def OutG (w : World) (G : Nat → Prop) : (a : AT) → Sigma Ty.den → Value → List Nat → Prop
  | .var t, p, v, bl => p.1 = t ∧ ∃ b cs T bl', v = .pointer (some ⟨b, 0, none⟩) ∧ w.heap[b]? = some (.cells (List.toArray cs) T (0, 0)) ∧ Val w G p.1 p.2 cs ∧ Inn w G p.1 p.2 cs bl' ∧ bl = bl' ++ [b]
  | .io t, p, v, bl => p.1 = t ∧ ∃ cs, AsVal p.1 cs v ∧ Val w G p.1 p.2 cs ∧ Inn w G p.1 p.2 cs bl
  | _, _, _, _ => False
def OutsG (w : World) (G : Nat → Prop) : List AT → List Value → List (Sigma Ty.den) → List Nat → Prop
  | [], [], ps, bl => ps = [] ∧ bl = []
  | a :: r, v :: l, ps, bl => match isIo a with
    | true => ∃ p ps' b1 b2, ps = p :: ps' ∧ bl = b1 ++ b2 ∧ OutG w G a p v b1 ∧ OutsG w G r l ps' b2
    | false => OutsG w G r l ps bl
  | _, _, _, _ => False
def Own1 (w : World) (G : Nat → Prop) (p : Sigma Ty.den) (v : Value) (bl : List Nat) : Prop := ∃ cs, AsVal p.1 cs v ∧ Val w G p.1 p.2 cs ∧ Inn w G p.1 p.2 cs bl
def ResG (w : World) (G : Nat → Prop) : List (Sigma Ty.den) → List Value → List Nat → Prop
  | [], l, bl => l = [] ∧ bl = []
  | p :: ps, v :: l, bl => ∃ b1 b2, bl = b1 ++ b2 ∧ Own1 w G p v b1 ∧ ResG w G ps l b2
  | _ :: _, [], _ => False
/-- how many answers there are beside what comes back -/
def Con.nres (c : Con) : Nat := lenN c.res - nIo c.args
/-- THE CONTRACT OF A CALL THAT HANDS MEMORY OVER, or answers with memory that nobody else knows. -/
def GenCon (P : Program) (w0 : World) (f : Nat) (c : Con) : Prop :=
  ∀ (k : Nat) (x : ATs.den c.args) (r : den1 c.res) (w : World) (G H : Nat → Prop) (args : List Value) (bl : List Nat), Below w0.heap.size w0 w → (∀ b, G b → b < w.heap.size) → (∀ b, H b → b < w.heap.size) → (∀ b, G b → H b) →
    ArgsG w G H c.args x args bl → bl.Nodup → (∀ b ∈ bl, ¬ G b ∧ ¬ H b ∧ b < w.heap.size ∧ w0.heap.size ≤ b) → c.fn k x = some r →
    Calls P f args.toArray w fun e w' => ∃ l G' b1 b2, e = .returned (asRes l) ∧ Kept ⟨w, w0, fun b => b ∈ bl, []⟩ w' ∧ (∀ b, G' b → (G b ∨ w.heap.size ≤ b ∨ b ∈ bl) ∧ b < w'.heap.size) ∧
      ResG w' G' (takeN c.nres (parts c.res r)) l b1 ∧ OutsG w' G' c.args args (dropN c.nres (parts c.res r)) b2 ∧ (b1 ++ b2).Nodup ∧ ∀ b ∈ b1 ++ b2, ¬ G' b ∧ b < w'.heap.size ∧ (w.heap.size ≤ b ∨ b ∈ bl)

def DelOk (P : Program) (w0 : World) (Δ : List (Nat × Con)) : Prop := ∀ f c, (f, c) ∈ Δ → (c.gen = false → ConOk P w0 f c) ∧ Enters' P f ∧ SrtCon P f c ∧ (c.gen = true → GenCon P w0 f c)
theorem GenCon.later {P : Program} {w0 w : World} {f : Nat} {c : Con} (h : GenCon P w0 f c) (hb : Below w0.heap.size w0 w) : GenCon P w f c := by
  intro k x r w' G H args bl hb' h1 h2 h3 h4 h5 h6 h7
  refine Calls.mono (h k x r w' G H args bl (hb.trans (hb'.mono hb.size)) h1 h2 h3 h4 h5 (fun b hm => ⟨(h6 b hm).1, (h6 b hm).2.1, (h6 b hm).2.2.1, Nat.le_trans hb.size (h6 b hm).2.2.2⟩) h7) ?_
  rintro e w2 ⟨l, G', b1, b2, g1, g2, g3⟩
  exact ⟨l, G', b1, b2, g1, ⟨g2.os, g2.tape, g2.output, g2.size, g2.block, hb'.trans ⟨g2.os, g2.tape, g2.output, g2.size, fun k hk => g2.block k (Nat.lt_of_lt_of_le hk hb'.size) fun hm => absurd (h6 k hm).2.2.2 (by omega)⟩, fun b hm => (h6 b hm).2.2.2, hb'.size⟩, g3⟩
theorem ConOk.later {P : Program} {w0 w : World} {f : Nat} {c : Con} (h : ConOk P w0 f c) (hb : Below w0.heap.size w0 w) : ConOk P w f c := fun k x r w' G args hb' => h k x r w' G args (hb.trans (hb'.mono hb.size))
theorem DelOk.later {P : Program} {w0 w : World} {Δ : List (Nat × Con)} (h : DelOk P w0 Δ) (hb : Below w0.heap.size w0 w) : DelOk P w Δ := fun f c hm => ⟨fun hg => ((h f c hm).1 hg).later hb, (h f c hm).2.1, (h f c hm).2.2.1, fun hg => ((h f c hm).2.2.2 hg).later hb⟩

theorem Ress.sv {m : St} : ∀ {ts : List Ty} {x : den1 ts} {l : List Value}, Ress m.w m.G ts x l → Sv m (resAll ts x) (asRes l)
  | [], _, l, h => by
    simp only [Ress] at h
    subst h
    exact ⟨[], rfl, trivial⟩
  | [t], x, l, ⟨v, e, cs, hv, ha⟩ => by
    subst e
    exact sv_ofTy hv ha
  | t :: u :: r, x, l, h => by
    have key : ∀ (ts : List Ty) (x : den1 ts) (l : List Value), Ress m.w m.G ts x l → R2 (Pv m) (svs ts x) l ∧ l.length = ts.length := by
      intro ts
      induction ts with
      | nil => intro x l h; simp only [Ress] at h; subst h; exact ⟨trivial, rfl⟩
      | cons t ts ih =>
        have one : ∀ (x : t.den) (v : Value), Res1 m.w m.G t x v → Pv m (t.isAgg, enc t x []) v := by
          intro x v ⟨cs, hv, ha⟩
          have he := Val.enc (m := m) hv
          unfold AsVal at ha
          cases hg : t.isAgg with
          | true =>
            rw [hg] at ha
            exact .inl ⟨rfl, cs, ha, he⟩
          | false =>
            rw [hg] at ha
            simp only at ha
            subst ha
            cases hE : enc t x [] with
            | nil => rw [hE] at he; exact absurd he (by simp [R2])
            | cons a l =>
              rw [hE] at he
              cases l with
              | nil => exact .inr ⟨rfl, a, rfl, he.1⟩
              | cons b l => exact absurd he.2 (by simp [R2])
        cases ts with
        | nil =>
          intro x l ⟨v, e, h⟩
          subst e
          exact ⟨⟨one x v h, trivial⟩, rfl⟩
        | cons u r =>
          intro x l ⟨v, l', e, h1, h2⟩
          subst e
          obtain ⟨g1, g2⟩ := ih x.2 l' h2
          exact ⟨⟨one x.1 v h1, g1⟩, by simp [g2]⟩
    obtain ⟨g1, g2⟩ := key _ x l h
    refine ⟨l, ?_, g1⟩
    match l, g2 with
    | a :: b :: l, _ => rfl
theorem Ress.flat {w w' : World} {G G' : Nat → Prop} : ∀ {ts : List Ty} {x : den1 ts} {l : List Value}, flatAll ts = true → Ress w G ts x l → Ress w' G' ts x l
  | [], _, _, _, h => h
  | [t], x, l, hf, ⟨v, e, cs, hv, ha⟩ => by
    simp only [flatAll, Bool.and_true] at hf
    exact ⟨v, e, cs, Val.flat hf hv, ha⟩
  | t :: u :: r, x, l, hf, ⟨v, l', e, ⟨cs, hv, ha⟩, h2⟩ => by
    simp only [flatAll, Bool.and_eq_true] at hf
    exact ⟨v, l', e, ⟨cs, Val.flat hf.1 hv, ha⟩, Ress.flat (by simp only [flatAll, Bool.and_eq_true]; exact hf.2) h2⟩

section
variable {P : Program} {w0 : Base} {G0 : Nat → Prop} {N : Nat} {F : List (Nat × Obj)} {m : St} {e : Env} {tm : Array Value} {Γ : Tab} {ρ : Type} {os : List (Nat × Obj)} {st : Bool} {Gd Hd : Nat → Prop}

theorem heap_lt {w : World} {b : Nat} {o : Go.Obj} (h : w.heap[b]? = some o) : b < w.heap.size := (Array.getElem?_eq_some_iff.1 h).1

section
variable (ho : ∀ i o, find os i = some o → Ob m i o) (hG : ∀ b, m.G b → Gd b) (hL : ∀ b, m.H b → Hd b) (hV : ∀ i vs, find os i = some (.var vs) → Hd (m.β i))
    (hR : st = false → ∀ i T u n xs b, find os i = some (.row T u n xs) → b ∈ m.σ n → Gd b)
include ho hG hL hV hR

theorem varTy_sound {t : Ty} {x : t.den} {id : Nat} {v : Value} (h : varTy st os t id = some x) (hv : v = .pointer (some ⟨m.β id, 0, none⟩)) : PtrH m.w Gd Hd t x v := by
  unfold varTy at h
  cases hf : find os id with
  | none => simp [hf] at h
  | some o =>
    have hob := ho id o hf
    cases o with
    | var vs =>
      simp only [hf] at h
      obtain ⟨cs, T, hh, hr⟩ := hob
      exact ⟨m.β id, 0, cs, hv, hV id vs hf, cells_of_heap hh, decCells_val ho hG hR h hr⟩
    | _ => simp [hf] at h
theorem capTy_sound {t : Ty} {x : t.den} {c : Cap} {v : Value} (h : capTy st os t c = some x) (hv : Cp m c v) : PtrH m.w Gd Hd t x v := by
  cases c with
  | loc id => exact varTy_sound ho hG hL hV hR h hv.2
  | el u y =>
    obtain ⟨b, o, cs, e, hH, hc, hval⟩ := hv
    exact ⟨b, o, cs, e, hL b hH, hc, Val.cast h (Val.mono (fun b hb => ⟨hG b hb, rfl⟩) _ _ _ hval)⟩
theorem bindCaps_sound : ∀ (ts : List Ty) (cs : List Cap) (x : dens ts) (l : List Value), bindCaps st os ts cs = some x → R2 (Cp m) cs l → CapsH m.w Gd Hd ts x l
  | [], [], x, l, h, hl => by
    cases l with
    | nil => rfl
    | cons => exact absurd hl (by simp [R2])
  | t :: r, c :: cs, x, l, h, hl => by
    cases l with
    | nil => exact absurd hl (by simp [R2])
    | cons v l =>
      obtain ⟨h1, h2⟩ := hl
      simp only [bindCaps] at h
      cases hx : capTy st os t c with
      | none => simp [hx] at h
      | some y =>
        cases hy : bindCaps st os r cs with
        | none => simp [hx, hy] at h
        | some z =>
          simp only [hx, hy, Option.some.injEq] at h
          subst h
          exact ⟨capTy_sound ho hG hL hV hR hx h1, bindCaps_sound r cs z l hy h2⟩
  | [], _ :: _, x, l, h, hl => by simp [bindCaps] at h
  | _ :: _, [], x, l, h, hl => by simp [bindCaps] at h
theorem bindArg_sound {a : AT} {x : a.den} {s : SV} {v : Value} (h : bindArg st os a s = some x) (hv : Sv m s v) : ArgH m.w Gd Hd a x v := by
  cases a with
  | val t =>
    simp only [bindArg] at h
    obtain ⟨cs, h1, h2⟩ := decAll_val ho hG hR h hv
    exact ⟨cs, h1, h2⟩
  | srt Ts => simp [bindArg] at h
  | var t => simp [bindArg] at h
  | io t => simp [bindArg] at h
  | own t => simp [bindArg] at h
  | ptr t =>
    cases s with
    | one y =>
      cases y with
      | loc id off =>
        cases off with
        | zero => exact varTy_sound ho hG hL hV hR (by simpa only [bindArg] using h) hv.2
        | succ => simp [bindArg] at h
      | el u y off =>
        cases off with
        | zero =>
          simp only [bindArg] at h
          obtain ⟨b, o, cs, e, hH, hc, hval⟩ := hv
          exact ⟨b, o, cs, by simpa using e, hL b hH, hc, Val.cast h (Val.mono (fun b hb => ⟨hG b hb, rfl⟩) _ _ _ hval)⟩
        | succ => simp [bindArg] at h
      | _ => simp [bindArg] at h
    | _ => simp [bindArg] at h
  | clo f ts =>
    cases s with
    | one y =>
      cases y with
      | clo g caps =>
        simp only [bindArg] at h
        cases hb : Nat.beq f g with
        | false => simp [hb] at h
        | true =>
          simp only [hb] at h
          have := Nat.eq_of_beq_eq_true hb
          subst this
          obtain ⟨cv, e, hc⟩ := hv
          exact ⟨cv, e, bindCaps_sound ho hG hL hV hR ts caps x cv h hc⟩
      | _ => simp [bindArg] at h
    | _ => simp [bindArg] at h
theorem bindArgs_sound : ∀ (ats : List AT) (vs : List SV) (x : ATs.den ats) (l : List Value), bindArgs st os ats vs = some x → R2 (Sv m) vs l → ArgsH m.w Gd Hd ats x l
  | [], [], x, l, h, hl => by
    cases l with
    | nil => rfl
    | cons => exact absurd hl (by simp [R2])
  | a :: r, v :: vs, x, l, h, hl => by
    cases l with
    | nil => exact absurd hl (by simp [R2])
    | cons u l =>
      obtain ⟨h1, h2⟩ := hl
      simp only [bindArgs] at h
      cases hx : bindArg st os a v with
      | none => simp [hx] at h
      | some y =>
        cases hy : bindArgs st os r vs with
        | none => simp [hx, hy] at h
        | some z =>
          simp only [hx, hy, Option.some.injEq] at h
          subst h
          exact ⟨bindArg_sound ho hG hL hV hR hx h1, bindArgs_sound r vs z l hy h2⟩
  | [], _ :: _, x, l, h, hl => by simp [bindArgs] at h
  | _ :: _, [], x, l, h, hl => by simp [bindArgs] at h
end

end
end Go.Ev
end

section
/- Memory that is handed over and comes back. -/
set_option linter.unusedSimpArgs false
set_option linter.unusedVariables false
set_option linter.unusedSectionVars false
namespace Go.Ev
open Go.RowKit (Below)

/-- The same memory, more names. -/
structure Grow (m m' : St) : Prop where
  le : m.le m'
  w : m'.w = m.w
  G : m'.G = m.G
  H : m'.H = m.H
theorem Grow.refl (m : St) : Grow m m := ⟨.refl m, rfl, rfl, rfl⟩
theorem Grow.trans {a b c : St} (h : Grow a b) (k : Grow b c) : Grow a c := ⟨h.le.trans k.le, k.w.trans h.w, k.G.trans h.G, k.H.trans h.H⟩

section
variable {P : Program} {w0 : Base} {G0 : Nat → Prop} {N : Nat} {F : List (Nat × Obj)} {m : St} {e : Env} {tm : Array Value} {Γ : Tab} {ρ : Type} {os : List (Nat × Obj)} {L : Nat}

/-- Blocks 'rest' wait for their names; the names below L that are not used are free. -/
structure Wait (w0 : Base) (G0 : Nat → Prop) (N : Nat) (F : List (Nat × Obj)) (L : Nat) (m : St) (e : Env) (tm : Array Value) (rest : List Nat) : Prop where
  rel : Rel w0 G0 N F m e tm
  free : ∀ i, e.next ≤ i → i < L → ¬ m.D i
  dis : ∀ i b, blk (e.objs ++ F) m i b → b ∉ rest
  nd : rest.Nodup
  bl : ∀ b ∈ rest, ¬ m.G b ∧ ¬ m.H b ∧ b < m.w.heap.size ∧ Mine w0 b

theorem Wait.row {T : Nat} {t : Ty} {xs : List t.den} {v : Value} {bl rest : List Nat} (h : Wait w0 G0 N F L m e tm (bl ++ rest)) (hL : e.next < L) (hr : RowAt m.w m.G T t xs v) (hi : RowIn m.w m.G t xs v bl) :
    ∃ m', Grow m m' ∧ (∀ i, m'.D i ↔ m.D i ∨ i = e.next) ∧ m'.ν e.next = v ∧ Wait w0 G0 N F L m' (e.new (.row T t e.next xs)) tm rest ∧ Lv m' (.row e.next) v := by
  have hfr := h.free e.next (Nat.le_refl _) hL
  have hnd := List.nodup_append.1 h.nd
  obtain ⟨m', hle, hw, hD, hν, hG, hH, hσ, hok⟩ := h.rel.ok.newRowX m.w T t xs v bl h.rel.ok.base (fun _ _ => rfl) (fun _ _ => rfl) (Nat.le_refl _) (fun _ _ _ => rfl) hr hi hnd.1 hfr (fun b hb => by
    obtain ⟨o1, o2, o3, o4⟩ := h.bl b (List.mem_append_left _ hb)
    exact ⟨o4, o3, o1, o2, fun i hk => h.dis i b hk (List.mem_append_left _ hb)⟩)
  have hs : ∃ A n c, v = .slice A n c := by
    rcases hr with ⟨e, _⟩ | ⟨b, c, cs, e, _⟩ <;> exact ⟨_, _, _, e⟩
  refine ⟨m', ⟨hle, hw, hG, hH⟩, hD, hν, ⟨h.rel.push hfr hle _ hok, fun i h1 h2 hd => ?_, fun i b hb hm => ?_, hnd.2.1, fun b hb => ?_⟩, (hD _).2 (.inr rfl), hν.symm, hs⟩
  · have h1 : e.next + 1 ≤ i := h1
    rcases (hD i).1 hd with hd | hd
    · exact h.free i (by omega) h2 hd
    · omega
  · have hb : blk ((e.next, .row T t e.next xs) :: (e.objs ++ F)) m' i b := hb
    by_cases hi : i = e.next
    · subst hi
      unfold blk at hb
      rw [find_cons, if_pos rfl] at hb
      simp only [hσ] at hb
      exact hnd.2.2 b hb b hm rfl
    · refine h.dis i b ?_ (List.mem_append_right _ hm)
      rw [← blk_le hle h.rel.ok.objs]
      unfold blk at hb ⊢
      rw [find_cons, if_neg fun q => hi q.symm] at hb
      exact hb
  · rw [hG, hH, hw]
    exact h.bl b (List.mem_append_right _ hb)

/-- A row comes back by the name that it had, its form by another. -/
theorem Wait.again {id T : Nat} {t : Ty} {xs : List t.den} {bn bx rest : List Nat} (h : Wait w0 G0 N F L m e tm (bx ++ rest)) (hL : e.next < L) (hD : m.D id) (hF : find F id = none) (hsub : ∀ b ∈ bn, b ∈ bx) (hnd : bn.Nodup) (hr : RowAt m.w m.G T t xs (m.ν id)) (hi : RowIn m.w m.G t xs (m.ν id) bn) :
    ∃ m', Grow m m' ∧ (∀ i, m'.D i ↔ m.D i ∨ i = e.next) ∧ Wait w0 G0 N F L m' (e.back id (.row T t e.next xs)) tm rest := by
  have hfr := h.free e.next (Nat.le_refl _) hL
  have hn := List.nodup_append.1 h.nd
  obtain ⟨m', hw, hle, hD', hG, hH, _, _, hσ, hR⟩ := h.rel.back (w' := m.w) (id := id) (T := T) (t := t) (xs := xs) (bl := bn) hD hF hfr h.rel.ok.base (Nat.le_refl _) (fun _ _ => rfl) (fun _ _ => rfl) (fun _ _ _ => rfl) hr hi hnd (fun b hb => by
    obtain ⟨o1, o2, o3, o4⟩ := h.bl b (List.mem_append_left _ (hsub b hb))
    exact ⟨o1, o2, o3, o4, fun i hk => h.dis i b hk (List.mem_append_left _ (hsub b hb))⟩)
  refine ⟨m', ⟨hle, hw, hG, hH⟩, hD', hR, fun i h1 h2 hd => ?_, fun i b hb hm => ?_, hn.2.1, fun b hb => ?_⟩
  · have h1 : e.next + 1 ≤ i := h1
    rcases (hD' i).1 hd with hd | hd
    · exact h.free i (by omega) h2 hd
    · omega
  · have hb : blk ((id, .row T t e.next xs) :: (e.objs ++ F)) m' i b := hb
    by_cases hi : i = id
    · subst hi
      unfold blk at hb
      rw [find_cons, if_pos rfl] at hb
      simp only [hσ] at hb
      exact hn.2.2 b (hsub b hb) b hm rfl
    · refine h.dis i b ?_ (List.mem_append_right _ hm)
      rw [← blk_le hle h.rel.ok.objs]
      unfold blk at hb ⊢
      rw [find_cons, if_neg fun q => hi q.symm] at hb
      exact hb
  · rw [hG, hH, hw]
    exact h.bl b (List.mem_append_right _ hb)
/-- What waits, in another order; some of it waits no more. -/
theorem Wait.perm {r1 r2 : List Nat} (h : Wait w0 G0 N F L m e tm r1) (hn : r2.Nodup) (hs : ∀ b ∈ r2, b ∈ r1) : Wait w0 G0 N F L m e tm r2 :=
  ⟨h.rel, h.free, fun i b hb hm => h.dis i b hb (hs b hm), hn, fun b hb => h.bl b (hs b hb)⟩
/-- A variable comes back, by its own name. -/
theorem Wait.back {id : Nat} {l : List V} {cs : List Value} {T : Nat} {rest : List Nat} (h : Wait w0 G0 N F L m e tm ([m.β id] ++ rest)) (hD : m.D id) (hF : find F id = none)
    (hh : m.w.heap[m.β id]? = some (.cells cs.toArray T (0, 0))) (hr : R2 (Lv m) l cs) : Wait w0 G0 N F L m ⟨e.slots, (id, .var l) :: e.objs, e.next⟩ tm rest := by
  have hnd := List.nodup_append.1 h.nd
  have hok := h.rel.ok
  have hblk : ∀ i c, blk ((id, .var l) :: (e.objs ++ F)) m i c → (i = id ∧ c = m.β id) ∨ (i ≠ id ∧ blk (e.objs ++ F) m i c) := fun i c hk => by
    unfold blk at hk ⊢
    rw [find_cons] at hk
    by_cases hi : id = i
    · rw [if_pos hi] at hk; subst hi; exact .inl ⟨rfl, hk⟩
    · rw [if_neg hi] at hk; exact .inr ⟨fun q => hi q.symm, hk⟩
  have hnot : ∀ i, ¬ blk (e.objs ++ F) m i (m.β id) := fun i hk => h.dis i _ hk (by simp)
  refine ⟨⟨⟨hok.base, fun i o ho => ?_, fun i j c h1 h2 => ?_, fun i c h1 => ?_, hok.liveG, hok.liveH, hok.subG, hok.gh⟩, fun i o ho => ?_, h.rel.tms, h.rel.slots⟩, h.free, fun i c hk hm => ?_, hnd.2.1, fun b hb => h.bl b (List.mem_append_right _ hb)⟩
  · have ho : find ((id, .var l) :: (e.objs ++ F)) i = some o := ho
    rw [find_cons] at ho
    by_cases hi : id = i
    · rw [if_pos hi] at ho
      obtain rfl := Option.some.inj ho
      subst hi
      exact ⟨hD, cs, T, hh, hr⟩
    · rw [if_neg hi] at ho
      exact hok.objs i o ho
  · rcases hblk i c h1 with ⟨q1, e1⟩ | ⟨_, k1⟩ <;> rcases hblk j c h2 with ⟨q2, e2⟩ | ⟨_, k2⟩
    · rw [q1, q2]
    · rw [e1] at k2; exact absurd k2 (hnot j)
    · rw [e2] at k1; exact absurd k1 (hnot i)
    · exact hok.inj i j c k1 k2
  · rcases hblk i c h1 with ⟨rfl, rfl⟩ | ⟨_, h1⟩
    · exact h.bl _ (by simp)
    · exact hok.out i c h1
  · rw [find_cons] at ho
    by_cases hi : id = i
    · subst hi; exact hF
    · rw [if_neg hi] at ho; exact h.rel.disj i o ho
  · rcases hblk i c hk with ⟨rfl, rfl⟩ | ⟨_, h1⟩
    · exact hnd.2.2 _ (by simp) _ hm rfl
    · exact h.dis i c h1 (List.mem_append_right _ hm)

/-! ### what is answered -/
theorem openV_next : ∀ (t : Ty) (e : Env) (x : t.den), e.next ≤ (openV e t x).1.next
  | .osl T t, e, x => Nat.le_succ _
  | .pair a b, e, x => Nat.le_trans (openV_next a e x.1) (openV_next b _ x.2)
  | .int _, e, _ | .bool, e, _ | .str, e, _ | .sl _, e, _ | .unit, e, _ | .any, e, _ => Nat.le_refl _
theorem openV_slots : ∀ (t : Ty) (e : Env) (x : t.den), (openV e t x).1.slots = e.slots
  | .osl T t, e, x => rfl
  | .pair a b, e, x => (openV_slots b _ x.2).trans (openV_slots a e x.1)
  | .int _, e, _ | .bool, e, _ | .str, e, _ | .sl _, e, _ | .unit, e, _ | .any, e, _ => rfl
theorem openV_sound {rest : List Nat} : ∀ (t : Ty) (x : t.den) (m : St) (e : Env) (cs : List Value) (bl rest : List Nat), Val m.w m.G t x cs → Inn m.w m.G t x cs bl → Wait w0 G0 N F L m e tm (bl ++ rest) → (openV e t x).1.next ≤ L →
    ∃ m', Grow m m' ∧ (∀ i, m'.D i → m.D i ∨ (e.next ≤ i ∧ i < (openV e t x).1.next)) ∧ Wait w0 G0 N F L m' (openV e t x).1 tm rest ∧ R2 (Lv m') (openV e t x).2 cs
  | .osl T t, xs, m, e, cs, bl, rest, _, ⟨v, e1, hr, hi⟩, hw, hL => by
    subst e1
    obtain ⟨m', g, hD, hν, hw', hl⟩ := hw.row (Nat.lt_of_lt_of_le (Nat.lt_succ_self _) hL) hr hi
    exact ⟨m', g, fun i hi => ((hD i).1 hi).imp id fun h => by subst h; exact ⟨Nat.le_refl _, Nat.lt_succ_self _⟩, hw', hl, trivial⟩
  | .pair a b, x, m, e, cs, bl, rest, ⟨c1, c2, e1, v1, v2⟩, ⟨d1, d2, b1, b2, e2, e3, e4, i1, i2⟩, hw, hL => by
    subst e1; subst e4
    obtain ⟨rfl, rfl⟩ := List.append_inj e2 (by rw [v1.length, e3])
    rw [List.append_assoc] at hw
    have hL' : (openV (openV e a x.1).1 b x.2).1.next ≤ L := hL
    obtain ⟨m1, g1, d1, w1, r1⟩ := openV_sound (rest := rest) a x.1 m e c1 b1 (b2 ++ rest) v1 i1 hw (Nat.le_trans (openV_next b _ x.2) hL')
    obtain ⟨m2, g2, d2, w2, r2⟩ := openV_sound (rest := rest) b x.2 m1 (openV e a x.1).1 c2 b2 rest (by rw [g1.w, g1.G]; exact v2) (by rw [g1.w, g1.G]; exact i2) w1 hL'
    refine ⟨m2, g1.trans g2, fun i hi => ?_, w2, (r1.imp fun _ _ hx => Lv.le g2.le hx).append r2⟩
    have n1 := openV_next a e x.1
    have n2 := openV_next b (openV e a x.1).1 x.2
    show _ ∨ (_ ∧ i < (openV (openV e a x.1).1 b x.2).1.next)
    rcases d2 i hi with h | ⟨h1, h2⟩
    · rcases d1 i h with h | ⟨h1, h2⟩
      · exact .inl h
      · exact .inr ⟨h1, by omega⟩
    · exact .inr ⟨by omega, h2⟩
  | .int k, x, m, e, cs, bl, rest, v, i, hw, _ => by simp only [Inn] at i; subst i; exact ⟨m, .refl m, fun i h => .inl h, hw, Val.enc (t := .int k) v⟩
  | .bool, x, m, e, cs, bl, rest, v, i, hw, _ => by simp only [Inn] at i; subst i; exact ⟨m, .refl m, fun i h => .inl h, hw, Val.enc (t := .bool) v⟩
  | .str, x, m, e, cs, bl, rest, v, i, hw, _ => by simp only [Inn] at i; subst i; exact ⟨m, .refl m, fun i h => .inl h, hw, Val.enc (t := .str) v⟩
  | .sl t, x, m, e, cs, bl, rest, v, i, hw, _ => by simp only [Inn] at i; subst i; exact ⟨m, .refl m, fun i h => .inl h, hw, Val.enc (t := .sl t) v⟩
  | .unit, x, m, e, cs, bl, rest, v, i, hw, _ => by simp only [Inn] at i; subst i; exact ⟨m, .refl m, fun i h => .inl h, hw, Val.enc (t := .unit) v⟩
  | .any, x, m, e, cs, bl, rest, v, i, hw, _ => by simp only [Inn] at i; subst i; exact ⟨m, .refl m, fun i h => .inl h, hw, Val.enc (t := .any) v⟩
theorem openAll_next : ∀ (ps : List (Sigma Ty.den)) (e : Env), e.next ≤ (openAll e ps).1.next
  | [], e => Nat.le_refl _
  | ⟨t, x⟩ :: r, e => Nat.le_trans (openV_next t e x) (openAll_next r _)
theorem openAll_slots : ∀ (ps : List (Sigma Ty.den)) (e : Env), (openAll e ps).1.slots = e.slots
  | [], e => rfl
  | ⟨t, x⟩ :: r, e => (openAll_slots r _).trans (openV_slots t e x)
theorem pv_of {m : St} {t : Ty} {l : List V} {cs : List Value} {v : Value} (h : R2 (Lv m) l cs) (ha : AsVal t cs v) : Pv m (t.isAgg, l) v := by
  unfold AsVal at ha
  cases hg : t.isAgg with
  | true => rw [hg] at ha; exact .inl ⟨rfl, cs, ha, h⟩
  | false =>
    rw [hg] at ha
    simp only at ha
    subst ha
    match l, h with
    | [a], h => exact .inr ⟨rfl, a, rfl, h.1⟩
theorem openAll_sound : ∀ (ps : List (Sigma Ty.den)) (m : St) (e : Env) (l : List Value) (bl rest : List Nat), ResG m.w m.G ps l bl → Wait w0 G0 N F L m e tm (bl ++ rest) → (openAll e ps).1.next ≤ L →
    ∃ m', Grow m m' ∧ (∀ i, m'.D i → m.D i ∨ (e.next ≤ i ∧ i < (openAll e ps).1.next)) ∧ Wait w0 G0 N F L m' (openAll e ps).1 tm rest ∧ R2 (Pv m') (openAll e ps).2 l
  | [], m, e, l, bl, rest, ⟨e1, e2⟩, hw, _ => by subst e1; subst e2; exact ⟨m, .refl m, fun i h => .inl h, hw, trivial⟩
  | ⟨t, x⟩ :: r, m, e, [], bl, rest, h, hw, _ => by simp [ResG] at h
  | ⟨t, x⟩ :: r, m, e, v :: l, bl, rest, ⟨b1, b2, e1, ⟨cs, ha, hv, hi⟩, h2⟩, hw, hL => by
    subst e1
    rw [List.append_assoc] at hw
    have hL' : (openAll (openV e t x).1 r).1.next ≤ L := hL
    obtain ⟨m1, g1, d1, w1, r1⟩ := openV_sound (rest := rest) t x m e cs b1 (b2 ++ rest) hv hi hw (Nat.le_trans (openAll_next r _) hL')
    obtain ⟨m2, g2, d2, w2, r2⟩ := openAll_sound r m1 (openV e t x).1 l b2 rest (by rw [g1.w, g1.G]; exact h2) w1 hL'
    refine ⟨m2, g1.trans g2, fun i hi => ?_, w2, Pv.le g2.le (pv_of r1 ha), r2⟩
    have n1 := openV_next t e x
    have n2 := openAll_next r (openV e t x).1
    show _ ∨ (_ ∧ i < (openAll (openV e t x).1 r).1.next)
    rcases d2 i hi with h | ⟨h1, h2⟩
    · rcases d1 i h with h | ⟨h1, h2⟩
      · exact .inl h
      · exact .inr ⟨h1, by omega⟩
    · exact .inr ⟨by omega, h2⟩
theorem svRes_sv {m : St} : ∀ {ls : List (Bool × List V)} {l : List Value}, R2 (Pv m) ls l → Sv m (svRes ls) (asRes l)
  | [], [], _ => ⟨[], rfl, trivial⟩
  | [(true, l)], [v], ⟨h, _⟩ => by
    rcases h with ⟨_, cs, e, hr⟩ | ⟨e, _⟩
    · exact ⟨cs, e, hr⟩
    · cases e
  | [(false, l)], [v], ⟨h, _⟩ => by
    rcases h with ⟨e, _⟩ | ⟨_, u, e, hr⟩
    · cases e
    · simp only at e; subst e; exact hr
  | p :: q :: r, v :: u :: l, h => by
    have : svRes (p :: q :: r) = .tup (p :: q :: r) := by
      obtain ⟨b, x⟩ := p
      cases b <;> simp [svRes]
    rw [this]
    exact ⟨v :: u :: l, rfl, h⟩
end
end Go.Ev
end

section
/- What is handed over, and how it comes back. -/
set_option linter.unusedSimpArgs false
set_option linter.unusedVariables false
set_option linter.unusedSectionVars false
namespace Go.Ev
open Go.RowKit (Below)

section
variable {w0 : Base} {G0 : Nat → Prop} {N : Nat} {F : List (Nat × Obj)} {m : St} {e : Env} {tm : Array Value} {os ov : List (Nat × Obj)} {st : Bool} {Gd Hd : Nat → Prop} {L : Nat}

/-- How a part of a row comes back: 'cl' are the row's other blocks. -/
def Bk (m : St) (os : List (Nat × Obj)) : AT → SV → Value → List Nat → Prop
  | .io (.osl T t), .one (.sub id n sz j off), v, cl => m.D id ∧ ∀ U u n' xs ys z, find os id = some (.row U u n' xs) → setP T t ys u (xs.getD j u.zero) off = some z → ∀ w' G', (∀ b, m.G b → G' b ∧ w'.heap[b]? = m.w.heap[b]?) → (∀ b ∈ cl, w'.heap[b]? = m.w.heap[b]?) →
      ∀ bl0, RowAt w' G' T t ys v → RowIn w' G' t ys v bl0 → bl0.Nodup → (∀ b ∈ cl, b ∉ bl0) → ∃ bn, RowAt w' G' U u (xs.set j z) (m.ν id) ∧ RowIn w' G' u (xs.set j z) (m.ν id) bn ∧ bn.Nodup ∧ ∀ b ∈ bn, b ∈ bl0 ++ cl
  | _, _, _, cl => cl = []
def Bks (m : St) (os : List (Nat × Obj)) : List AT → List SV → List Value → List Nat → Prop
  | [], [], [], cl => cl = []
  | a :: r, s :: vs, v :: l, cl => ∃ c1 c2, cl = c1 ++ c2 ∧ Bk m os a s v c1 ∧ Bks m os r vs l c2
  | _, _, _, _ => False

theorem sub_back {T U id n j off : Nat} {t u : Ty} {xs : List u.den} {xs0 : List t.den} {v : Value} (ho : Ob m id (.row U u n xs)) (hf : find os id = some (.row U u n xs)) (hl : Lv m (.sub id n u.size j off) v) (hg : getP T t u (xs.getD j u.zero) off = some xs0) :
    ∃ bl cl, RowAt m.w m.G T t xs0 v ∧ RowIn m.w m.G t xs0 v bl ∧ (bl ++ cl).Nodup ∧ (∀ b ∈ bl ++ cl, b ∈ m.σ n) ∧ Bk m os (.io (.osl T t)) (.one (.sub id n u.size j off)) v cl := by
  obtain ⟨h1, h2, h3, h4, _⟩ := ho
  obtain ⟨hD, _, ⟨b, len, c, e1, hj⟩, hv, _⟩ := hl
  rw [e1] at h1 h2 h4
  obtain ⟨bls, hσ, hbl, hel⟩ := rowIn_inv (b := b) h2 rfl
  have h1' := h1
  rcases h1' with ⟨e, _⟩ | ⟨b', c', cs, e, hh, k1, k2, k3, hx⟩
  · simp at e
  simp only [Value.slice.injEq, Option.some.injEq, Addr.mk.injEq, and_true] at e
  obtain ⟨rfl, rfl, rfl⟩ := e
  obtain ⟨cj, q1, q2, q3⟩ := hel j hj
  obtain ⟨cj', q4, q5⟩ := hx j hj
  have := cellsAt_same_len q4 q1 (by rw [q5.length, q2])
  subst this
  have hnd : (b :: bls.flatten).Nodup := by rw [← hσ]; exact h3
  have hndf := (List.nodup_cons.1 hnd).2
  have hbnot : ∀ k, b ∉ bls.getD k [] := fun k hk => (List.nodup_cons.1 hnd).1 (getD_flatten hk)
  obtain ⟨v', blp, r1, r2, r3, r4, r5, r6, r7⟩ := setP_own u _ off cj' (bls.getD j []) xs0 hg q5 q3 (getD_nodup hndf)
  obtain ⟨g1, _⟩ := h4 b rfl j hj off r6
  have hvv := cells1 q4 r1 g1
  rw [← hv] at hvv
  subst hvv
  have hblpσ : ∀ p ∈ blp, p ∈ m.σ n := fun p hp => by rw [hσ]; exact List.mem_cons_of_mem _ (getD_flatten (r4 p hp))
  refine ⟨blp, (m.σ n).filter (fun p => decide (p ∉ blp)), r2, r3, List.nodup_append.2 ⟨r5, h3.filter _, fun p hp q hq e => ?_⟩, fun p hp => ?_, hD, ?_⟩
  · subst e
    have := (List.mem_filter.1 hq).2
    simp only [decide_eq_true_eq] at this
    exact this hp
  · rcases List.mem_append.1 hp with hp | hp
    · exact hblpσ p hp
    · exact (List.mem_filter.1 hp).1
  · intro U' u' n' xs' ys z hf' hz w' G' hG hcl bl0 w1 w2 w3 w4
    rw [hf] at hf'
    cases hf'
    have hcm : ∀ p, p ∈ m.σ n → p ∉ blp → p ∈ (m.σ n).filter (fun p => decide (p ∉ blp)) := fun p h1 h2 => List.mem_filter.2 ⟨h1, by simpa using h2⟩
    have hinel : ∀ k p, p ∈ bls.getD k [] → p ∈ m.σ n := fun k p hp => by rw [hσ]; exact List.mem_cons_of_mem _ (getD_flatten hp)
    obtain ⟨x1, bl', x2, x3, x4⟩ := r7 ys z hz w' G' hG (fun p hp hq => hcl p (hcm p (hinel j p hp) hq)) bl0 w1 w2
    have hbm : b ∈ m.σ n := by rw [hσ]; exact List.mem_cons_self
    have hbp : b ∉ blp := fun h => hbnot j (r4 b h)
    have hheap : w'.heap[b]? = m.w.heap[b]? := hcl b (hcm b hbm hbp)
    have hother : ∀ k, k ≠ j → ∀ q ∈ bls.getD k [], q ∉ blp := fun k hk q hq hp => hk (getD_apart hndf hq (r4 q hp))
    obtain ⟨y1, y2⟩ := row_set (w' := w') (G' := G') (cs' := cs) (z := z) (bl' := bl') h1 hel hbl hG (fun k hk q hq => hcl q (hcm q (hinel k q hq) (hother k hk q hq))) (by rw [hheap]; exact hh) k3
      (fun k d _ _ _ hc => cellsAt_same hc hheap) hj (cellsAt_same q4 hheap) x1 x2
    rw [e1]
    refine ⟨_, y1, y2, List.nodup_cons.2 ⟨fun hm => ?_, flatten_set_nodup bls j bl' hndf (x4 w3 fun p hp hq => w4 p (hcm p (hinel j p hp) hq)) fun p hp k hk hk' => ?_⟩, fun p hp => ?_⟩
    · rcases flatten_set_mem bls j bl' b hm with hm | ⟨k, _, _, hm⟩
      · rcases x3 b hm with ⟨h, _⟩ | h
        · exact hbnot j h
        · exact w4 b (hcm b hbm hbp) h
      · exact hbnot k hm
    · rcases x3 p hp with ⟨h, _⟩ | h
      · exact hk (getD_apart hndf hk' h)
      · exact w4 p (hcm p (hinel k p hk') (hother k hk p hk')) h
    · rcases List.mem_cons.1 hp with e | hp
      · subst e; exact List.mem_append_right _ (hcm _ hbm hbp)
      · rcases flatten_set_mem bls j bl' p hp with hp | ⟨k, hk, _, hp⟩
        · rcases x3 p hp with ⟨h, h'⟩ | h
          · exact List.mem_append_right _ (hcm p (hinel j p h) h')
          · exact List.mem_append_left _ h
        · exact List.mem_append_right _ (hcm p (hinel k p hp) (hother k hk p hp))
theorem bindG1_sound (hk : Tk m os ov st Gd) (hL : ∀ b, m.H b → Hd b) (hV : ∀ i vs, find ov i = some (.var vs) → Hd (m.β i)) {a : AT} {s : SV} {x : a.den} {v : Value} (hn : (ids1 os a s).Nodup) (h : bindG1 st os ov a s = some x) (hs : Sv m s v) :
    ∃ bl cl, ArgG m.w Gd Hd a x v bl ∧ Bk m os a s v cl ∧ (bl ++ cl).Nodup ∧ ∀ b ∈ bl ++ cl, ∃ i ∈ ids1 os a s, blk os m i b := by
  have plain : ∀ {P : Prop}, P → (([] : List Nat) ++ ([] : List Nat)).Nodup ∧ ∀ b ∈ ([] : List Nat) ++ ([] : List Nat), ∃ i ∈ ids1 os a s, blk os m i b := fun _ => ⟨List.nodup_nil, fun b hb => by simp at hb⟩
  have isv : ∀ (t : Ty) (x : t.den), (idsT t s.cells).Nodup → takeSV st os ov t s = some x → ∃ bl, (∃ cs, AsVal t cs v ∧ Val m.w Gd t x cs ∧ Inn m.w Gd t x cs bl) ∧ (bl ++ []).Nodup ∧ ∀ b ∈ bl ++ [], ∃ i ∈ idsT t s.cells, blk os m i b := by
    intro t x hn h
    obtain ⟨cs, h1, h2, bl, h3, h4, h5⟩ := takeSV_sound hk hn h hs
    exact ⟨bl, ⟨cs, h1, h2, h3⟩, by rw [List.append_nil]; exact h4, by rw [List.append_nil]; exact h5⟩
  cases a with
  | val t => exact ⟨[], [], ⟨rfl, bindArg_sound hk.hov hk.hG hL hV hk.hR h hs⟩, rfl, plain h⟩
  | ptr t => exact ⟨[], [], ⟨rfl, bindArg_sound hk.hov hk.hG hL hV hk.hR h hs⟩, rfl, plain h⟩
  | clo f ts => exact ⟨[], [], ⟨rfl, bindArg_sound hk.hov hk.hG hL hV hk.hR h hs⟩, rfl, plain h⟩
  | srt Ts => simp [bindG1, bindArg] at h
  | own t =>
    simp only [bindG1] at h
    simp only [ids1] at hn ⊢
    obtain ⟨bl, h1, h2, h3⟩ := isv t x hn h
    exact ⟨bl, [], h1, rfl, h2, h3⟩
  | var t =>
    cases s with
    | one y =>
      cases y with
      | loc id off =>
        cases off with
        | succ => simp [bindG1, bindArg] at h
        | zero =>
          simp only [bindG1] at h
          cases hf : find os id with
          | none => simp [hf] at h
          | some o =>
            cases o with
            | var l =>
              simp only [hf] at h
              simp only [ids1, hf] at hn ⊢
              have hnd := List.nodup_cons.1 hn
              obtain ⟨cs, T, hh, hr⟩ := hk.ho id _ hf
              obtain ⟨hv, bl, h3, h4, h5⟩ := takeC_sound hk t l x cs hnd.2 h hr
              have hβ : blk os m id (m.β id) := by unfold blk; rw [hf]
              refine ⟨bl ++ [m.β id], [], ⟨m.β id, cs, T, bl, hs.2, hh, hv, h3, rfl⟩, rfl, ?_, fun b hb => ?_⟩
              · rw [List.append_nil]
                refine List.nodup_append.2 ⟨h4, by simp, fun p hp q hq e => ?_⟩
                subst e
                simp only [List.mem_singleton] at hq
                subst hq
                obtain ⟨i, hi, hb⟩ := h5 _ hp
                have := hk.inj i id _ hb hβ
                subst this
                exact hnd.1 hi
              · rw [List.append_nil] at hb
                rcases List.mem_append.1 hb with hb | hb
                · obtain ⟨i, hi, hb⟩ := h5 _ hb
                  exact ⟨i, List.mem_cons_of_mem _ hi, hb⟩
                · simp only [List.mem_singleton] at hb
                  subst hb
                  exact ⟨id, List.mem_cons_self, hβ⟩
            | _ => simp [hf] at h
      | _ => simp [bindG1, bindArg] at h
    | _ => simp [bindG1, bindArg] at h
  | io t =>
    by_cases hsub : ∃ T u id n sz j off, t = .osl T u ∧ s = .one (.sub id n sz j off)
    · obtain ⟨T, u, id, n, sz, j, off, rfl, rfl⟩ := hsub
      simp only [bindG1] at h
      cases hf : find os id with
      | none => simp [hf] at h
      | some o =>
        cases o with
        | row U r n' xs =>
          simp only [hf] at h
          cases hc : Nat.beq n n' && Nat.beq sz r.size with
          | false => simp [hc] at h
          | true =>
            simp only [hc] at h
            rw [Bool.and_eq_true] at hc
            have h1 := Nat.eq_of_beq_eq_true hc.1
            have h2 := Nat.eq_of_beq_eq_true hc.2
            subst h1; subst h2
            obtain ⟨bl, cl, r1, r2, r3, r4, r5⟩ := sub_back (os := os) (hk.ho id _ hf) hf hs h
            have hs0 : Lv m (.sub id n r.size j off) v := hs
            exact ⟨bl, cl, ⟨[v], rfl, ⟨v, rfl, hs0.oneCell⟩, v, rfl, r1.grow hk.hG, r2.grow hk.hG⟩, r5, r3, fun b hb => ⟨id, by simp [ids1, idsT, SV.cells], by unfold blk; rw [hf]; exact r4 b hb⟩⟩
        | _ => simp [hf] at h
    · have h' : takeSV st os ov t s = some x := by
        cases t with
        | osl T u =>
          cases s with
          | one y =>
            cases y with
            | sub id n sz j off => exact absurd ⟨T, u, id, n, sz, j, off, rfl, rfl⟩ hsub
            | _ => exact h
          | _ => exact h
        | _ => exact h
      have hb : ∀ cl, Bk m os (.io t) s v cl ↔ cl = [] := by
        intro cl
        cases t with
        | osl T u =>
          cases s with
          | one y =>
            cases y with
            | sub id n sz j off => exact absurd ⟨T, u, id, n, sz, j, off, rfl, rfl⟩ hsub
            | _ => exact Iff.rfl
          | _ => exact Iff.rfl
        | _ => exact Iff.rfl
      have hi : ids1 os (.io t) s = idsT t s.cells := by cases s <;> rfl
      rw [hi] at hn ⊢
      obtain ⟨bl, h1, h2, h3⟩ := isv t x hn h'
      exact ⟨bl, [], h1, (hb []).2 rfl, h2, h3⟩
theorem bindG_sound (hk : Tk m os ov st Gd) (hL : ∀ b, m.H b → Hd b) (hV : ∀ i vs, find ov i = some (.var vs) → Hd (m.β i)) : ∀ (ats : List AT) (vs : List SV) (x : ATs.den ats) (l : List Value), (ioIds os ats vs).Nodup → bindG st os ov ats vs = some x → R2 (Sv m) vs l →
    ∃ bl cl, ArgsG m.w Gd Hd ats x l bl ∧ Bks m os ats vs l cl ∧ (bl ++ cl).Nodup ∧ ∀ b ∈ bl ++ cl, ∃ i ∈ ioIds os ats vs, blk os m i b
  | [], [], x, l, hn, h, hl => by
    cases l with
    | nil => exact ⟨[], [], ⟨rfl, rfl⟩, rfl, List.nodup_nil, fun b hb => by simp at hb⟩
    | cons => exact absurd hl (by simp [R2])
  | a :: r, v :: vs, x, l, hn, h, hl => by
    cases l with
    | nil => exact absurd hl (by simp [R2])
    | cons u l =>
      obtain ⟨h1, h2⟩ := hl
      simp only [ioIds] at hn ⊢
      have hnd := List.nodup_append.1 hn
      simp only [bindG] at h
      cases hx : bindG1 st os ov a v with
      | none => simp [hx] at h
      | some y =>
        cases hy : bindG st os ov r vs with
        | none => simp [hx, hy] at h
        | some z =>
          simp only [hx, hy, Option.some.injEq] at h
          subst h
          obtain ⟨b1, c1, a1, a2, a3, a4⟩ := bindG1_sound hk hL hV hnd.1 hx h1
          obtain ⟨b2, c2, d1, d2, d3, d4⟩ := bindG_sound hk hL hV r vs z l hnd.2.1 hy h2
          have hap : ∀ p ∈ b1 ++ c1, ∀ q ∈ b2 ++ c2, p ≠ q := fun p hp q hq e => by
            subst e
            obtain ⟨i, hi, k1⟩ := a4 p hp
            obtain ⟨j, hj, k2⟩ := d4 p hq
            exact hnd.2.2 i hi j hj (hk.inj i j p k1 k2)
          have n1 := List.nodup_append.1 a3
          have n2 := List.nodup_append.1 d3
          refine ⟨b1 ++ b2, c1 ++ c2, ⟨b1, b2, rfl, a1, d1⟩, ⟨c1, c2, rfl, a2, d2⟩, ?_, fun b hb => ?_⟩
          · refine List.nodup_append.2 ⟨List.nodup_append.2 ⟨n1.1, n2.1, fun p hp q hq => hap p (List.mem_append_left _ hp) q (List.mem_append_left _ hq)⟩, List.nodup_append.2 ⟨n1.2.1, n2.2.1, fun p hp q hq => hap p (List.mem_append_right _ hp) q (List.mem_append_right _ hq)⟩, fun p hp q hq => ?_⟩
            rcases List.mem_append.1 hp with hp | hp <;> rcases List.mem_append.1 hq with hq | hq
            · exact n1.2.2 p hp q hq
            · exact hap p (List.mem_append_left _ hp) q (List.mem_append_right _ hq)
            · exact fun e => hap q (List.mem_append_right _ hq) p (List.mem_append_left _ hp) e.symm
            · exact n2.2.2 p hp q hq
          · have : b ∈ b1 ++ c1 ∨ b ∈ b2 ++ c2 := by
              simp only [List.mem_append] at hb ⊢
              rcases hb with (h | h) | (h | h)
              · exact .inl (.inl h)
              · exact .inr (.inl h)
              · exact .inl (.inr h)
              · exact .inr (.inr h)
            rcases this with h | h
            · obtain ⟨i, hi, k⟩ := a4 b h
              exact ⟨i, List.mem_append_left _ hi, k⟩
            · obtain ⟨i, hi, k⟩ := d4 b h
              exact ⟨i, List.mem_append_right _ hi, k⟩
  | [], _ :: _, x, l, hn, h, hl => by simp [bindG] at h
  | _ :: _, [], x, l, hn, h, hl => by simp [bindG] at h

/-! ### it comes back -/
theorem putIo_next : ∀ (t : Ty) (e : Env) (x : t.den) (l : List V) (e1 : Env), putIo e t x l = some e1 → e.next ≤ e1.next ∧ e1.slots = e.slots
  | .osl T t, e, ys, l, e1, h => by
    match l with
    | [] => simp [putIo] at h
    | _ :: _ :: _ => rename_i v _ _; cases v <;> simp [putIo] at h
    | [v] =>
      cases v with
      | row id => simp only [putIo, Option.some.injEq] at h; subst h; exact ⟨Nat.le_succ _, rfl⟩
      | nil => simp only [putIo, Option.some.injEq] at h; subst h; exact ⟨Nat.le_refl _, rfl⟩
      | _ => simp [putIo] at h
  | .pair a b, e, x, l, e1, h => by
    simp only [putIo] at h
    cases h1 : putIo e a x.1 (takeN a.size l) with
    | none => simp [h1] at h
    | some e2 =>
      simp only [h1] at h
      obtain ⟨k1, k2⟩ := putIo_next a e x.1 _ e2 h1
      obtain ⟨k3, k4⟩ := putIo_next b e2 x.2 _ e1 h
      exact ⟨Nat.le_trans k1 k3, k4.trans k2⟩
  | .int _, e, _, _, e1, h | .bool, e, _, _, e1, h | .str, e, _, _, e1, h | .sl _, e, _, _, e1, h | .unit, e, _, _, e1, h | .any, e, _, _, e1, h => by simp only [putIo, Option.some.injEq] at h; subst h; exact ⟨Nat.le_refl _, rfl⟩
theorem putIo_sound : ∀ (t : Ty) (x : t.den) (m : St) (e e1 : Env) (l : List V) (cs : List Value) (bl rest : List Nat), Inn m.w m.G t x cs bl → cs.length = t.size → R2 (Lv m) l cs → (∀ i ∈ idsT t l, find F i = none) → putIo e t x l = some e1 → Wait w0 G0 N F L m e tm (bl ++ rest) → e1.next ≤ L →
    ∃ m', Grow m m' ∧ (∀ i, m'.D i → m.D i ∨ (e.next ≤ i ∧ i < e1.next)) ∧ Wait w0 G0 N F L m' e1 tm rest
  | .osl T t, ys, m, e, e1, l, cs, bl, rest, ⟨v, ec, hr, hi⟩, _, hl, hF, h, hw, hL => by
    subst ec
    match l, hl with
    | [u], ⟨hu, _⟩ =>
      cases u with
      | row id =>
        simp only [putIo, Option.some.injEq] at h
        subst h
        obtain ⟨hD, e2, _⟩ := hu
        have hnd := List.nodup_append.1 hw.nd
        obtain ⟨m', g, hD', hw'⟩ := hw.again (id := id) (T := T) (t := t) (xs := ys) (bn := bl) (bx := bl) (Nat.lt_of_lt_of_le (Nat.lt_succ_self _) hL) hD (hF id (by simp [idsT])) (fun _ h => h) hnd.1 (by rw [← e2]; exact hr) (by rw [← e2]; exact hi)
        exact ⟨m', g, fun i hi => ((hD' i).1 hi).imp (fun h => h) fun h => by subst h; exact ⟨Nat.le_refl _, Nat.lt_succ_self _⟩, hw'⟩
      | nil =>
        simp only [putIo, Option.some.injEq] at h
        subst h
        exact ⟨m, .refl m, fun i h => .inl h, hw.perm (List.nodup_append.1 hw.nd).2.1 fun b hb => List.mem_append_right _ hb⟩
      | _ => simp [putIo] at h
  | .pair a b, x, m, e, e1, l, cs, bl, rest, ⟨c1, c2, b1, b2, ec, el, eb, i1, i2⟩, hlen, hl, hF, h, hw, hL => by
    subst ec; subst eb
    simp only [putIo] at h
    rw [takeN_eq, dropN_eq] at h
    cases h1 : putIo e a x.1 (l.take a.size) with
    | none => simp [h1] at h
    | some e2 =>
      simp only [h1] at h
      obtain ⟨k1, _⟩ := putIo_next a e x.1 _ e2 h1
      obtain ⟨k2, _⟩ := putIo_next b e2 x.2 _ e1 h
      simp only [idsT] at hF
      rw [takeN_eq, dropN_eq] at hF
      have hlt : R2 (Lv m) (l.take a.size) c1 := by
        have := hl.take a.size
        rwa [← el, List.take_left, el] at this
      have hld : R2 (Lv m) (l.drop a.size) c2 := by
        have := hl.drop a.size
        rwa [← el, List.drop_left, el] at this
      simp only [Ty.size, List.length_append] at hlen
      rw [List.append_assoc] at hw
      obtain ⟨m1, g1, d1, w1⟩ := putIo_sound a x.1 m e e2 _ c1 b1 (b2 ++ rest) i1 el hlt (fun i hi => hF i (List.mem_append_left _ hi)) h1 hw (Nat.le_trans k2 hL)
      obtain ⟨m2, g2, d2, w2⟩ := putIo_sound b x.2 m1 e2 e1 _ c2 b2 rest (by rw [g1.w, g1.G]; exact i2) (by omega) (hld.imp fun _ _ hx => Lv.le g1.le hx) (fun i hi => hF i (List.mem_append_right _ hi)) h w1 hL
      refine ⟨m2, g1.trans g2, fun i hi => ?_, w2⟩
      rcases d2 i hi with h | ⟨h1, h2⟩
      · rcases d1 i h with h | ⟨h1, h2⟩
        · exact .inl h
        · exact .inr ⟨h1, by omega⟩
      · exact .inr ⟨by omega, h2⟩
  | .int _, x, m, e, e1, l, cs, bl, rest, hi, _, hl, hF, h, hw, _ | .bool, x, m, e, e1, l, cs, bl, rest, hi, _, hl, hF, h, hw, _ | .str, x, m, e, e1, l, cs, bl, rest, hi, _, hl, hF, h, hw, _
  | .sl _, x, m, e, e1, l, cs, bl, rest, hi, _, hl, hF, h, hw, _ | .unit, x, m, e, e1, l, cs, bl, rest, hi, _, hl, hF, h, hw, _ | .any, x, m, e, e1, l, cs, bl, rest, hi, _, hl, hF, h, hw, _ => by
    simp only [putIo, Option.some.injEq] at h
    subst h
    exact ⟨m, .refl m, fun i h => .inl h, hw.perm (List.nodup_append.1 hw.nd).2.1 fun b hb => List.mem_append_right _ hb⟩

theorem cells_of_asVal {m : St} {s : SV} {t : Ty} {cs : List Value} {v : Value} {x : t.den} {G : Nat → Prop} (hs : Sv m s v) (ha : AsVal t cs v) (hv : Val m.w G t x cs) (h1 : ∀ u ∈ cs, u.oneCell' = true ∧ u.cells = #[u]) (ht : s.isTup = false) : R2 (Lv m) s.cells cs := by
  obtain ⟨cs', e, hr⟩ := hs.cells ht
  have hc : v.cells = cs.toArray := by
    unfold AsVal at ha
    cases hg : t.isAgg with
    | true => rw [hg] at ha; rw [ha]; rfl
    | false =>
      rw [hg] at ha
      simp only at ha
      subst ha
      exact (h1 v (by simp)).2
  rw [e] at hc
  rw [List.toArray_inj hc] at hr
  exact hr
theorem Val.cells1 {w : World} {G : Nat → Prop} : ∀ {t : Ty} {x : t.den} {cs : List Value}, Val w G t x cs → ∀ u ∈ cs, u.oneCell' = true ∧ u.cells = #[u]
  | .int _, _, _, h, u, hu => by simp only [Val] at h; subst h; simp at hu; subst hu; exact ⟨rfl, rfl⟩
  | .bool, _, _, h, u, hu => by simp only [Val] at h; subst h; simp at hu; subst hu; exact ⟨rfl, rfl⟩
  | .str, _, _, ⟨_, h, _⟩, u, hu => by subst h; simp at hu; subst hu; exact ⟨rfl, rfl⟩
  | .unit, _, _, h, u, hu => by simp only [Val] at h; subst h; simp at hu
  | .any, _, _, ⟨_, h, h1⟩, u, hu => by subst h; simp at hu; subst hu; exact h1
  | .osl _ _, _, _, ⟨_, h, h1⟩, u, hu => by subst h; simp at hu; subst hu; exact h1
  | .sl _, _, _, ⟨_, _, _, h, _⟩, u, hu => by subst h; simp at hu; subst hu; exact ⟨rfl, rfl⟩
  | .pair _ _, _, _, ⟨c1, c2, e, h1, h2⟩, u, hu => by
    subst e
    rcases List.mem_append.1 hu with hu | hu
    · exact Val.cells1 h1 u hu
    · exact Val.cells1 h2 u hu
theorem putIo_tup {t : Ty} {x : t.den} {s : SV} (h : s.isTup = true) {m : St} {v : Value} {cs : List Value} {w : World} {G : Nat → Prop} (hs : Sv m s v) (ha : AsVal t cs v) (hv : Val w G t x cs) : False := by
  cases s with
  | tup l =>
    obtain ⟨xs, e, _⟩ := hs
    unfold AsVal at ha
    cases hg : t.isAgg with
    | true => rw [hg] at ha; rw [e] at ha; cases ha
    | false =>
      rw [hg] at ha
      simp only at ha
      subst ha
      have := (Val.cells1 hv v (by simp)).1
      rw [e] at this
      simp [Value.oneCell'] at this
  | _ => simp [SV.isTup] at h

/-- the three ways in which something comes back -/
theorem putG1_cases {a : AT} {s : SV} {p : Sigma Ty.den} {e e1 : Env} (h : putG1 os e a s p = some e1) :
    (∃ t id y, a = .var t ∧ s = .one (.loc id 0) ∧ cast? p.1 t p.2 = some y ∧ e1 = ⟨(openV e t y).1.slots, (id, .var (openV e t y).2) :: (openV e t y).1.objs, (openV e t y).1.next⟩) ∨
    (∃ T t id n sz j off ys U r n' xs z, a = .io (.osl T t) ∧ s = .one (.sub id n sz j off) ∧ cast? p.1 (.osl T t) p.2 = some ys ∧ find os id = some (.row U r n' xs) ∧ setP T t ys r (xs.getD j r.zero) off = some z ∧ e1 = e.back id (.row U r e.next (xs.set j z))) ∨
    (∃ t y, a = .io t ∧ (¬ ∃ T u id n sz j off, t = .osl T u ∧ s = .one (.sub id n sz j off)) ∧ cast? p.1 t p.2 = some y ∧ putIo e t y s.cells = some e1) := by
  obtain ⟨u, x⟩ := p
  cases a with
  | var t =>
    cases s with
    | one q =>
      cases q with
      | loc id off =>
        cases off with
        | succ => simp [putG1] at h
        | zero =>
          simp only [putG1] at h
          cases hc : cast? u t x with
          | none => simp [hc] at h
          | some y =>
            simp only [hc, Option.some.injEq] at h
            exact .inl ⟨t, id, y, rfl, rfl, hc, h.symm⟩
      | _ => simp [putG1] at h
    | _ => simp [putG1] at h
  | io t =>
    by_cases hsub : ∃ T u id n sz j off, t = .osl T u ∧ s = .one (.sub id n sz j off)
    · obtain ⟨T, t', id, n, sz, j, off, rfl, rfl⟩ := hsub
      simp only [putG1] at h
      cases hc : cast? u (.osl T t') x with
      | none => simp [hc] at h
      | some ys =>
        cases hf : find os id with
        | none => simp [hc, hf] at h
        | some o =>
          cases o with
          | row U r n' xs =>
            simp only [hc, hf] at h
            cases hz : setP T t' ys r (xs.getD j r.zero) off with
            | none => rw [hz] at h; cases h
            | some z =>
              rw [hz] at h
              simp only [Option.some.injEq] at h
              exact .inr (.inl ⟨T, t', id, n, sz, j, off, ys, U, r, n', xs, z, rfl, rfl, hc, hf, hz, h.symm⟩)
          | _ => simp [hc, hf] at h
    · have h' : (match cast? u t x with
          | some y => putIo e t y s.cells
          | none => none) = some e1 := by
        cases t with
        | osl T t' =>
          cases s with
          | one q =>
            cases q with
            | sub id n sz j off => exact absurd ⟨T, t', id, n, sz, j, off, rfl, rfl⟩ hsub
            | _ => exact h
          | _ => exact h
        | _ => exact h
      cases hc : cast? u t x with
      | none => simp [hc] at h'
      | some y =>
        simp only [hc] at h'
        exact .inr (.inr ⟨t, y, rfl, hsub, hc, h'⟩)
  | _ => simp [putG1] at h
theorem putG1_next {a : AT} {s : SV} {p : Sigma Ty.den} {e e1 : Env} (h : putG1 os e a s p = some e1) : e.next ≤ e1.next ∧ e1.slots = e.slots := by
  rcases putG1_cases h with ⟨t, id, y, _, _, _, rfl⟩ | ⟨T, t, id, n, sz, j, off, ys, U, r, n', xs, z, _, _, _, _, _, rfl⟩ | ⟨t, y, _, _, _, h⟩
  · exact ⟨openV_next t e y, openV_slots t e y⟩
  · exact ⟨Nat.le_succ _, rfl⟩
  · exact putIo_next _ _ _ _ _ h
theorem putG_next : ∀ (ats : List AT) (vs : List SV) (ps : List (Sigma Ty.den)) (e e1 : Env), putG os e ats vs ps = some e1 → e.next ≤ e1.next ∧ e1.slots = e.slots
  | [], [], [], e, e1, h => by simp only [putG, Option.some.injEq] at h; subst h; exact ⟨Nat.le_refl _, rfl⟩
  | a :: r, v :: vs, ps, e, e1, h => by
    simp only [putG] at h
    cases hi : isIo a with
    | false => simp only [hi] at h; exact putG_next r vs ps e e1 h
    | true =>
      simp only [hi] at h
      cases ps with
      | nil => simp at h
      | cons p ps =>
        simp only at h
        cases h1 : putG1 os e a v p with
        | none => simp [h1] at h
        | some e2 =>
          simp only [h1] at h
          obtain ⟨k1, k2⟩ := putG1_next h1
          obtain ⟨k3, k4⟩ := putG_next r vs ps e2 e1 h
          exact ⟨Nat.le_trans k1 k3, k4.trans k2⟩
  | [], [], _ :: _, e, e1, h => by simp [putG] at h
  | [], _ :: _, ps, e, e1, h => by simp [putG] at h
  | _ :: _, [], ps, e, e1, h => by simp [putG] at h

/-- One argument comes back. -/
theorem putG1_sound {m0 : St} {a : AT} {s : SV} {p : Sigma Ty.den} {v : Value} {e1 : Env} {b2 cl rest : List Nat} (hout : OutG m.w m.G a p v b2) (hs : Sv m s v) (hbk : Bk m0 os a s v cl)
    (hν : ∀ i, m0.D i → m.D i ∧ m.ν i = m0.ν i) (hG : ∀ b, m0.G b → m.G b ∧ m.w.heap[b]? = m0.w.heap[b]?) (hcl : ∀ b ∈ cl, m.w.heap[b]? = m0.w.heap[b]?) (hF : ∀ i ∈ ids1 os a s, find F i = none)
    (h : putG1 os e a s p = some e1) (hw : Wait w0 G0 N F L m e tm ((b2 ++ cl) ++ rest)) (hL : e1.next ≤ L) :
    ∃ m', Grow m m' ∧ (∀ i, m'.D i → m.D i ∨ (e.next ≤ i ∧ i < e1.next)) ∧ Wait w0 G0 N F L m' e1 tm rest := by
  obtain ⟨u, x⟩ := p
  rcases putG1_cases h with ⟨t, id, y, rfl, rfl, hc, rfl⟩ | ⟨T, t, id, n, sz, j, off, ys, U, r, n', xs, z, rfl, rfl, hc, hf, hz, rfl⟩ | ⟨t, y, rfl, hsub, hc, h⟩
  · obtain ⟨ht, b, cs, T, bl', hv, hh, hval, hin, rfl⟩ := hout
    simp only at ht hc
    subst ht
    obtain ⟨_, hc⟩ := cast?_some hc
    subst hc
    have : cl = [] := hbk
    subst this
    obtain ⟨hD, hv2⟩ := hs
    have hb : b = m.β id := by
      rw [hv] at hv2
      simp only [Value.pointer.injEq, Option.some.injEq, Addr.mk.injEq] at hv2
      exact hv2.1
    subst hb
    rw [List.append_nil, List.append_assoc] at hw
    obtain ⟨m', g, d, w1, r1⟩ := openV_sound (rest := [m.β id] ++ rest) u x m e cs bl' ([m.β id] ++ rest) hval hin hw hL
    have hβ : m'.β id = m.β id := g.le.β id hD
    have hFi : find F id = none := hF id (by simp [ids1])
    rw [← hβ] at w1
    exact ⟨m', g, d, w1.back (T := T) (cs := cs) (g.le.D id hD) hFi (by rw [g.w, hβ]; exact hh) r1⟩
  · obtain ⟨ht, cs, hA, hval, hin⟩ := hout
    simp only at ht hc
    subst ht
    obtain ⟨_, hc⟩ := cast?_some hc
    subst hc
    obtain ⟨v', e2, r1, r2⟩ := hin
    simp only [AsVal, Ty.isAgg] at hA
    rw [hA] at e2
    simp only [List.cons.injEq, and_true] at e2
    subst e2
    obtain ⟨hD0, hbk⟩ := hbk
    have hnd := List.nodup_append.1 hw.nd
    have hnd2 := List.nodup_append.1 hnd.1
    obtain ⟨bn, k1, k2, k3, k4⟩ := hbk U r n' xs _ z hf hz m.w m.G hG hcl b2 r1 r2 hnd2.1 fun b hb hb' => hnd2.2.2 b hb' b hb rfl
    obtain ⟨hD, hν1⟩ := hν id hD0
    obtain ⟨m', g, hD', hw'⟩ := hw.again (id := id) (T := U) (t := r) (xs := xs.set j z) (bn := bn) (Nat.lt_of_lt_of_le (Nat.lt_succ_self _) hL) hD (hF id (by simp [ids1, idsT, SV.cells])) k4 k3 (by rw [hν1]; exact k1) (by rw [hν1]; exact k2)
    exact ⟨m', g, fun i hi => ((hD' i).1 hi).imp (fun h => h) fun h => by subst h; exact ⟨Nat.le_refl _, Nat.lt_succ_self _⟩, hw'⟩
  · obtain ⟨ht, cs, hA, hval, hin⟩ := hout
    simp only at ht hc
    subst ht
    obtain ⟨_, hc⟩ := cast?_some hc
    subst hc
    have hcn : cl = [] := by
      have hb : Bk m0 os (.io u) s v cl ↔ cl = [] := by
        cases u with
        | osl T u =>
          cases s with
          | one y =>
            cases y with
            | sub id n sz j off => exact absurd ⟨T, u, id, n, sz, j, off, rfl, rfl⟩ hsub
            | _ => exact Iff.rfl
          | _ => exact Iff.rfl
        | _ => exact Iff.rfl
      exact hb.1 hbk
    subst hcn
    rw [List.append_nil] at hw
    have htup : s.isTup = false := by
      cases hq : s.isTup with
      | false => rfl
      | true => exact (putIo_tup (x := x) hq hs hA hval).elim
    exact putIo_sound u x m e e1 s.cells cs b2 rest hin hval.length (cells_of_asVal hs hA hval hval.cells1 htup) (fun i hi => hF i (by cases s <;> exact hi)) h hw hL

theorem Bk.nil {m0 : St} {a : AT} {s : SV} {v : Value} {cl : List Nat} (hi : isIo a = false) (h : Bk m0 os a s v cl) : cl = [] := by
  cases a <;> first | exact h | simp [isIo] at hi
theorem putG_sound {m0 : St} : ∀ (ats : List AT) (vs : List SV) (l : List Value) (ps : List (Sigma Ty.den)) (m : St) (e e1 : Env) (b2 cl rest : List Nat), OutsG m.w m.G ats l ps b2 → R2 (Sv m) vs l → Bks m0 os ats vs l cl →
    (∀ i, m0.D i → m.D i ∧ m.ν i = m0.ν i) → (∀ b, m0.G b → m.G b ∧ m.w.heap[b]? = m0.w.heap[b]?) → (∀ b ∈ cl, m.w.heap[b]? = m0.w.heap[b]?) → (∀ i ∈ ioIds os ats vs, find F i = none) →
    putG os e ats vs ps = some e1 → Wait w0 G0 N F L m e tm ((b2 ++ cl) ++ rest) → e1.next ≤ L →
    ∃ m', Grow m m' ∧ (∀ i, m'.D i → m.D i ∨ (e.next ≤ i ∧ i < e1.next)) ∧ Wait w0 G0 N F L m' e1 tm rest
  | [], [], l, ps, m, e, e1, b2, cl, rest, ho, hvs, hbk, hν, hG, hcl, hF, h, hw, hL => by
    cases ps with
    | nil =>
      simp only [putG, Option.some.injEq] at h
      subst h
      exact ⟨m, .refl m, fun i h => .inl h, hw.perm (List.nodup_append.1 hw.nd).2.1 fun b hb => List.mem_append_right _ hb⟩
    | cons => simp [putG] at h
  | a :: r, s :: vs, [], ps, m, e, e1, b2, cl, rest, ho, hvs, hbk, hν, hG, hcl, hF, h, hw, hL => by simp [R2] at hvs
  | a :: r, s :: vs, v :: l, ps, m, e, e1, b2, cl, rest, ho, hvs, hbk, hν, hG, hcl, hF, h, hw, hL => by
    obtain ⟨c1, c2, rfl, k1, k2⟩ := hbk
    obtain ⟨hs, hvs⟩ := hvs
    simp only [ioIds] at hF
    simp only [putG] at h
    simp only [OutsG] at ho
    cases hi : isIo a with
    | false =>
      simp only [hi] at h ho
      have := k1.nil hi
      subst this
      exact putG_sound r vs l ps m e e1 b2 c2 rest ho hvs k2 hν hG hcl (fun i hm => hF i (List.mem_append_right _ hm)) h hw hL
    | true =>
      simp only [hi] at h ho
      obtain ⟨p, ps', p1, p2, rfl, rfl, o1, o2⟩ := ho
      simp only at h
      cases h1 : putG1 os e a s p with
      | none => simp [h1] at h
      | some e2 =>
        simp only [h1] at h
        obtain ⟨n1, _⟩ := putG1_next h1
        obtain ⟨n2, _⟩ := putG_next r vs ps' e2 e1 h
        have hsub : ∀ b, b ∈ (p1 ++ c1) ++ ((p2 ++ c2) ++ rest) ↔ b ∈ ((p1 ++ p2) ++ (c1 ++ c2)) ++ rest := fun b => by
          simp only [List.mem_append]
          constructor
          · rintro ((h | h) | (h | h) | h)
            · exact .inl (.inl (.inl h))
            · exact .inl (.inr (.inl h))
            · exact .inl (.inl (.inr h))
            · exact .inl (.inr (.inr h))
            · exact .inr h
          · rintro (((h | h) | (h | h)) | h)
            · exact .inl (.inl h)
            · exact .inr (.inl (.inl h))
            · exact .inl (.inr h)
            · exact .inr (.inl (.inr h))
            · exact .inr (.inr h)
        have hnd : ((p1 ++ c1) ++ ((p2 ++ c2) ++ rest)).Nodup := by
          have hp : (((p1 ++ p2) ++ (c1 ++ c2)) ++ rest).Perm ((p1 ++ c1) ++ ((p2 ++ c2) ++ rest)) := by
            have e1 : ((p1 ++ p2) ++ (c1 ++ c2)).Perm ((p1 ++ c1) ++ (p2 ++ c2)) := by
              rw [List.append_assoc, List.append_assoc]
              refine List.Perm.append_left p1 ?_
              rw [← List.append_assoc, ← List.append_assoc]
              exact List.perm_append_comm.append_right c2
            have e2 := e1.append_right rest
            rwa [List.append_assoc (p1 ++ c1)] at e2
          exact hp.nodup_iff.1 hw.nd
        obtain ⟨m1, g1, d1, w1⟩ := putG1_sound (m0 := m0) (m := m) (F := F) (os := os) (cl := c1) (rest := (p2 ++ c2) ++ rest) o1 hs k1 hν hG (fun b hb => hcl b (List.mem_append_left _ hb)) (fun i hm => hF i (List.mem_append_left _ hm)) h1 (hw.perm hnd fun b hb => (hsub b).1 hb) (Nat.le_trans n2 hL)
        obtain ⟨m2, g2, d2, w2⟩ := putG_sound (m0 := m0) r vs l ps' m1 e2 e1 p2 c2 rest (by rw [g1.w, g1.G]; exact o2) (hvs.imp fun _ _ hx => Sv.le g1.le hx) k2 (fun i hi => ⟨g1.le.D i (hν i hi).1, (g1.le.ν i (hν i hi).1).trans (hν i hi).2⟩) (fun b hb => by rw [g1.G, g1.w]; exact hG b hb) (fun b hb => by rw [g1.w]; exact hcl b (List.mem_append_right _ hb)) (fun i hm => hF i (List.mem_append_right _ hm)) h w1 hL
        refine ⟨m2, g1.trans g2, fun i hi => ?_, w2⟩
        rcases d2 i hi with h | ⟨h1, h2⟩
        · rcases d1 i h with h | ⟨h1, h2⟩
          · exact .inl h
          · exact .inr ⟨h1, by omega⟩
        · exact .inr ⟨by omega, h2⟩
  | [], _ :: _, l, ps, m, e, e1, b2, cl, rest, ho, hvs, hbk, hν, hG, hcl, hF, h, hw, hL => by simp [putG] at h
  | _ :: _, [], l, ps, m, e, e1, b2, cl, rest, ho, hvs, hbk, hν, hG, hcl, hF, h, hw, hL => by simp [putG] at h
end
end Go.Ev
end

section
/- Calls. -/
set_option linter.unusedSimpArgs false
set_option linter.unusedVariables false
set_option linter.unusedSectionVars false
namespace Go.Ev
open Go.RowKit (Below)

theorem Val.closed {w w' : World} {G G' : Nat → Prop} : ∀ {t : Ty} {x : t.den} {cs : List Value}, t.closed = true → Val w G t x cs → Val w' G' t x cs
  | .int _, _, _, _, h => h
  | .bool, _, _, _, h => h
  | .str, _, _, _, h => h
  | .unit, _, _, _, h => h
  | .osl _ _, _, _, _, h => h
  | .pair a b, x, _, hf, ⟨c1, c2, e, h1, h2⟩ => by
    simp only [Ty.closed, Bool.and_eq_true] at hf
    exact ⟨c1, c2, e, Val.closed hf.1 h1, Val.closed hf.2 h2⟩
  | .sl _, _, _, hf, _ => by simp [Ty.closed] at hf
  | .any, _, _, hf, _ => by simp [Ty.closed] at hf
theorem Inn.closed {w : World} {G G' : Nat → Prop} : ∀ {t : Ty} {x : t.den} {cs : List Value} {bl : List Nat}, t.closed = true → Inn w G t x cs bl → Inn w G' t x cs bl
  | .int _, _, _, _, _, h | .bool, _, _, _, _, h | .str, _, _, _, _, h | .unit, _, _, _, _, h => h
  | .pair a b, x, _, _, hf, ⟨c1, c2, b1, b2, e1, e2, e3, h1, h2⟩ => by
    simp only [Ty.closed, Bool.and_eq_true] at hf
    exact ⟨c1, c2, b1, b2, e1, e2, e3, Inn.closed hf.1 h1, Inn.closed hf.2 h2⟩
  | .sl _, _, _, _, hf, _ => by simp [Ty.closed] at hf
  | .any, _, _, _, hf, _ => by simp [Ty.closed] at hf
  | .osl T t, xs, _, _, hf, ⟨v, e, hr, hi⟩ => by
    have ht : t.closed = true := hf
    refine ⟨v, e, ?_, ?_⟩
    · rcases hr with h | ⟨b, c, cs, e, hh, h1, h2, h3, hx⟩
      · exact .inl h
      · exact .inr ⟨b, c, cs, e, hh, h1, h2, h3, fun j hj => by
          obtain ⟨cs', k1, k2⟩ := hx j hj
          exact ⟨cs', k1, Val.closed ht k2⟩⟩
    · rcases hi with h | ⟨b, e, bls, e2, hl, hx⟩
      · exact .inl h
      · exact .inr ⟨b, e, bls, e2, hl, fun j hj => by
          obtain ⟨cs, k1, k2, k3⟩ := hx j hj
          exact ⟨cs, k1, k2, Inn.closed ht k3⟩⟩
theorem ResG.closed {w : World} {G G' : Nat → Prop} : ∀ {ps : List (Sigma Ty.den)} {l : List Value} {bl : List Nat}, (∀ p ∈ ps, p.1.closed = true) → ResG w G ps l bl → ResG w G' ps l bl
  | [], _, _, _, h => h
  | p :: ps, v :: l, bl, hc, ⟨b1, b2, e, ⟨cs, h1, h2, h3⟩, h4⟩ => ⟨b1, b2, e, ⟨cs, h1, Val.closed (hc p List.mem_cons_self) h2, Inn.closed (hc p List.mem_cons_self) h3⟩, ResG.closed (fun q hq => hc q (List.mem_cons_of_mem _ hq)) h4⟩
  | _ :: _, [], _, _, h => h.elim
theorem OutG.closed {w : World} {G G' : Nat → Prop} {a : AT} {p : Sigma Ty.den} {v : Value} {bl : List Nat} (hc : p.1.closed = true) (h : OutG w G a p v bl) : OutG w G' a p v bl := by
  cases a with
  | var t =>
    obtain ⟨ht, b, cs, T, bl', h1, h2, h3, h4, h5⟩ := h
    exact ⟨ht, b, cs, T, bl', h1, h2, Val.closed hc h3, Inn.closed hc h4, h5⟩
  | io t =>
    obtain ⟨ht, cs, h1, h2, h3⟩ := h
    exact ⟨ht, cs, h1, Val.closed hc h2, Inn.closed hc h3⟩
  | _ => exact h.elim
theorem OutsG.closed {w : World} {G G' : Nat → Prop} : ∀ {ats : List AT} {l : List Value} {ps : List (Sigma Ty.den)} {bl : List Nat}, (∀ p ∈ ps, p.1.closed = true) → OutsG w G ats l ps bl → OutsG w G' ats l ps bl
  | [], [], _, _, _, h => h
  | [], _ :: _, _, _, _, h => h.elim
  | _ :: _, [], _, _, _, h => h.elim
  | a :: r, v :: l, ps, bl, hc, h => by
    simp only [OutsG] at h ⊢
    cases hi : isIo a with
    | false => simp only [hi] at h ⊢; exact OutsG.closed hc h
    | true =>
      simp only [hi] at h ⊢
      obtain ⟨p, ps', b1, b2, rfl, e2, h1, h2⟩ := h
      exact ⟨p, ps', b1, b2, rfl, e2, OutG.closed (hc p List.mem_cons_self) h1, OutsG.closed (fun q hq => hc q (List.mem_cons_of_mem _ hq)) h2⟩
theorem Val.grow {w : World} {G G' : Nat → Prop} (hG : ∀ b, G b → G' b) {t : Ty} {x : t.den} {cs : List Value} (h : Val w G t x cs) : Val w G' t x cs := Val.mono (fun b hb => ⟨hG b hb, rfl⟩) t x cs h
theorem ResG.grow {w : World} {G G' : Nat → Prop} (hG : ∀ b, G b → G' b) : ∀ {ps : List (Sigma Ty.den)} {l : List Value} {bl : List Nat}, ResG w G ps l bl → ResG w G' ps l bl
  | [], _, _, h => h
  | p :: ps, v :: l, bl, ⟨b1, b2, e, ⟨cs, h1, h2, h3⟩, h4⟩ => ⟨b1, b2, e, ⟨cs, h1, h2.grow hG, h3.grow hG⟩, ResG.grow hG h4⟩
  | _ :: _, [], _, h => h.elim
theorem OutG.grow {w : World} {G G' : Nat → Prop} (hG : ∀ b, G b → G' b) {a : AT} {p : Sigma Ty.den} {v : Value} {bl : List Nat} (h : OutG w G a p v bl) : OutG w G' a p v bl := by
  cases a with
  | var t =>
    obtain ⟨ht, b, cs, T, bl', h1, h2, h3, h4, h5⟩ := h
    exact ⟨ht, b, cs, T, bl', h1, h2, h3.grow hG, h4.grow hG, h5⟩
  | io t =>
    obtain ⟨ht, cs, h1, h2, h3⟩ := h
    exact ⟨ht, cs, h1, h2.grow hG, h3.grow hG⟩
  | _ => exact h.elim
theorem OutsG.grow {w : World} {G G' : Nat → Prop} (hG : ∀ b, G b → G' b) : ∀ {ats : List AT} {l : List Value} {ps : List (Sigma Ty.den)} {bl : List Nat}, OutsG w G ats l ps bl → OutsG w G' ats l ps bl
  | [], [], _, _, h => h
  | [], _ :: _, _, _, h => h.elim
  | _ :: _, [], _, _, h => h.elim
  | a :: r, v :: l, ps, bl, h => by
    simp only [OutsG] at h ⊢
    cases hi : isIo a with
    | false => simp only [hi] at h ⊢; exact OutsG.grow hG h
    | true =>
      simp only [hi] at h ⊢
      obtain ⟨p, ps', b1, b2, rfl, e2, h1, h2⟩ := h
      exact ⟨p, ps', b1, b2, rfl, e2, h1.grow hG, OutsG.grow hG h2⟩
theorem parts_closed : ∀ {ts : List Ty} {y : den1 ts}, closedAll ts = true → ∀ p ∈ parts ts y, p.1.closed = true
  | [], _, _, p, h => by simp [parts] at h
  | [t], x, hc, p, h => by
    simp only [closedAll, Bool.and_true] at hc
    simp only [parts, List.mem_singleton] at h
    subst h; exact hc
  | t :: u :: r, x, hc, p, h => by
    simp only [closedAll, Bool.and_eq_true] at hc
    simp only [parts, List.mem_cons] at h
    rcases h with h | h
    · subst h; exact hc.1
    · exact parts_closed (ts := u :: r) (y := x.2) (by simp only [closedAll, Bool.and_eq_true]; exact hc.2) p h

theorem noOwn_ids : ∀ {t : Ty} {l : List V}, t.noOwn = true → idsT t l = []
  | .osl _ _, _, h => by simp [Ty.noOwn] at h
  | .pair a b, l, h => by
    simp only [Ty.noOwn, Bool.and_eq_true] at h
    simp only [idsT, noOwn_ids h.1, noOwn_ids h.2, List.append_nil]
  | .int _, _, _ | .bool, _, _ | .str, _, _ | .sl _, _, _ | .unit, _, _ | .any, _, _ => rfl
section
variable {st : Bool} {os ov : List (Nat × Obj)}
theorem takeC_ids : ∀ {t : Ty} {l : List V} {x : t.den}, takeC st os ov t l = some x → ∀ i ∈ idsT t l, ∃ o, find os i = some o
  | .pair a b, l, x, h, i, hi => by
    simp only [takeC] at h
    simp only [idsT, List.mem_append] at hi
    cases h1 : takeC st os ov a (takeN a.size l) with
    | none => simp [h1] at h
    | some y =>
      cases h2 : takeC st os ov b (dropN a.size l) with
      | none => simp [h1, h2] at h
      | some z =>
        rcases hi with hi | hi
        · exact takeC_ids h1 i hi
        · exact takeC_ids h2 i hi
  | .osl T t, l, x, h, i, hi => by
    match l with
    | [] => simp [idsT] at hi
    | _ :: _ :: _ => rename_i v _ _; cases v <;> simp [idsT] at hi
    | [v] =>
      cases v with
      | row id =>
        simp only [idsT, List.mem_singleton] at hi
        subst hi
        simp only [takeC] at h
        cases hf : find os i with
        | none => simp [hf] at h
        | some o => exact ⟨o, rfl⟩
      | rng id sz lo hi' =>
        simp only [idsT, List.mem_singleton] at hi
        subst hi
        cases lo with
        | succ => simp [takeC] at h
        | zero =>
          simp only [takeC] at h
          cases hf : find os i with
          | none => simp [hf] at h
          | some o => exact ⟨o, rfl⟩
      | sub id n sz j off => simp [takeC] at h
      | _ => simp [idsT] at hi
  | .int _, _, _, _, i, hi | .bool, _, _, _, i, hi | .str, _, _, _, i, hi | .sl _, _, _, _, i, hi | .unit, _, _, _, i, hi | .any, _, _, _, i, hi => by simp [idsT] at hi
theorem takeT_ids {t : Ty} {l : List V} {x : t.den} (h : takeT st os ov t l = some x) : ∀ i ∈ idsT t l, ∃ o, find os i = some o := by
  unfold takeT at h
  cases ht : t.noOwn with
  | true => intro i hi; rw [noOwn_ids ht] at hi; simp at hi
  | false => rw [ht] at h; exact takeC_ids h
theorem takeSV_ids {t : Ty} {s : SV} {x : t.den} (h : takeSV st os ov t s = some x) : ∀ i ∈ idsT t s.cells, ∃ o, find os i = some o := by
  unfold takeSV at h
  cases s with
  | tup l => simp at h
  | one y =>
    cases ha : t.isAgg with
    | true => simp [ha] at h
    | false => simp only [ha] at h; exact takeT_ids h
  | agg l =>
    cases ha : t.isAgg with
    | false => simp [ha] at h
    | true => simp only [ha] at h; exact takeT_ids h
theorem bindG1_ids {a : AT} {s : SV} {x : a.den} (h : bindG1 st os ov a s = some x) : ∀ i ∈ ids1 os a s, ∃ o, find os i = some o := by
  cases a with
  | var t =>
    cases s with
    | one y =>
      cases y with
      | loc id off =>
        cases off with
        | succ => simp [bindG1, bindArg] at h
        | zero =>
          simp only [bindG1] at h
          cases hf : find os id with
          | none => simp [hf] at h
          | some o =>
            cases o with
            | var l =>
              simp only [hf] at h
              intro i hi
              simp only [ids1, hf, List.mem_cons] at hi
              rcases hi with hi | hi
              · subst hi; exact ⟨_, hf⟩
              · exact takeC_ids h i hi
            | _ => simp [hf] at h
      | _ => simp [bindG1, bindArg] at h
    | _ => simp [bindG1, bindArg] at h
  | own t => exact fun i hi => takeSV_ids (by simpa only [bindG1] using h) i (by cases s <;> exact hi)
  | io t =>
    by_cases hsub : ∃ T u id n sz j off, t = .osl T u ∧ s = .one (.sub id n sz j off)
    · obtain ⟨T, u, id, n, sz, j, off, rfl, rfl⟩ := hsub
      simp only [bindG1] at h
      intro i hi
      simp only [ids1, idsT, SV.cells, List.mem_singleton] at hi
      subst hi
      cases hf : find os i with
      | none => simp [hf] at h
      | some o => exact ⟨o, rfl⟩
    · have h' : takeSV st os ov t s = some x := by
        cases t with
        | osl T u =>
          cases s with
          | one y =>
            cases y with
            | sub id n sz j off => exact absurd ⟨T, u, id, n, sz, j, off, rfl, rfl⟩ hsub
            | _ => exact h
          | _ => exact h
        | _ => exact h
      exact fun i hi => takeSV_ids h' i (by cases s <;> exact hi)
  | _ => intro i hi; simp [ids1] at hi
theorem bindG_ids : ∀ {ats : List AT} {vs : List SV} {x : ATs.den ats}, bindG st os ov ats vs = some x → ∀ i ∈ ioIds os ats vs, ∃ o, find os i = some o
  | [], [], _, _, i, hi => by simp [ioIds] at hi
  | [], _ :: _, _, h, _, _ => by simp [bindG] at h
  | _ :: _, [], _, h, _, _ => by simp [bindG] at h
  | a :: r, v :: vs, x, h, i, hi => by
    simp only [bindG] at h
    simp only [ioIds, List.mem_append] at hi
    cases hx : bindG1 st os ov a v with
    | none => simp [hx] at h
    | some y =>
      cases hy : bindG st os ov r vs with
      | none => simp [hx, hy] at h
      | some z =>
        rcases hi with hi | hi
        · exact bindG1_ids hx i hi
        · exact bindG_ids hy i hi
end
theorem Kept.with {B : Base} {w w' : World} {M : Nat → Prop} {pins : List (Nat × Value)} (h : Kept B w) (k : Kept ⟨w, B.o, M, pins⟩ w') (hM : ∀ b, M b → Mine B b) : Kept B w' :=
  ⟨k.os.trans h.os, k.tape.trans h.tape, k.output.trans h.output, Nat.le_trans h.size k.size, fun i hi hm => (k.block i (Nat.lt_of_lt_of_le hi h.size) fun hMi => by
    rcases hM i hMi with q | q
    · exact absurd hi (Nat.not_lt.2 q)
    · exact hm q).trans (h.block i hi hm), k.old, h.oldM, h.oldS⟩

section
variable {P : Program} {w0 : Base} {G0 : Nat → Prop} {N : Nat} {F : List (Nat × Obj)} {m : St} {e : Env} {tm : Array Value} {Γ : Tab} {ρ : Type} {os : List (Nat × Obj)} {st : Bool}

/-- What a call that hands memory over answers with. -/
def Called (w0 : Base) (G0 : Nat → Prop) (N : Nat) (F : List (Nat × Obj)) (m : St) (e : Env) (tm : Array Value) (K : SV → Env → Option ρ) (r : ρ) (en : Ending) (w' : World) : Prop :=
  ∃ v m' e' s, en = .returned v ∧ m'.w = w' ∧ Stp m e m' e' ∧ Rel w0 G0 N F m' e' tm ∧ Sv m' s v ∧ K s e' = some r

theorem callG_tail {f k : Nat} {c : Con} {vs : List SV} {args : List Value} {K : SV → Env → Option ρ} {r : ρ} (hcon : GenCon P w0.o f c) (hR : Rel w0 G0 N F m e tm) (hfr : Fr m e) (hvs : R2 (Sv m) vs args)
    {fl : List Nat} {Gd Hd : Nat → Prop} {x : ATs.den c.args} {y : den1 c.res} (hnd : (ioIds e.objs c.args vs).Nodup) (hy : c.fn k x = some y) {m1 : St} (hl1 : m.le m1) (hw1 : m1.w = m.w) (hD1 : m1.D = m.D) (hν1 : m1.ν = m.ν)
    (hR1 : Rel w0 G0 N F m1 ⟨e.slots, freezeAll fl (eraseAll (ioIds e.objs c.args vs) e.objs), e.next⟩ tm)
    (hap : ∀ i b, i ∈ ioIds e.objs c.args vs → blk e.objs m1 i b → (¬ m1.G b ∧ ¬ m1.H b ∧ b < m1.w.heap.size ∧ Mine w0 b) ∧ ∀ j, ¬ blk (freezeAll fl (eraseAll (ioIds e.objs c.args vs) e.objs) ++ F) m1 j b)
    (hk : Tk m1 e.objs (freezeAll fl (eraseAll (ioIds e.objs c.args vs) e.objs)) st Gd) (hbind : bindG st e.objs (freezeAll fl (eraseAll (ioIds e.objs c.args vs) e.objs)) c.args vs = some x)
    (hGd : ∀ b, Gd b → m1.G b ∨ ∃ i, blk (freezeAll fl (eraseAll (ioIds e.objs c.args vs) e.objs) ++ F) m1 i b) (hHd : ∀ b, Hd b ↔ m1.H b ∨ ∃ i, blk (freezeAll fl (eraseAll (ioIds e.objs c.args vs) e.objs) ++ F) m1 i b)
    (hm : closedAll c.res = true ∨ Gd = m1.G) (h : backG nmW c vs e.objs e.next ⟨e.slots, freezeAll fl (eraseAll (ioIds e.objs c.args vs) e.objs), e.next⟩ y K = some r) :
    Calls P f args.toArray m.w (Called w0 G0 N F m e tm K r) := by
  generalize hov : freezeAll fl (eraseAll (ioIds e.objs c.args vs) e.objs) = ov at hR1 hap hk hbind hGd hHd h
  have hvs1 : R2 (Sv m1) vs args := hvs.imp fun _ _ hx => Sv.le hl1 hx
  obtain ⟨bl, cl, a1, a2, a3, a4⟩ := bindG_sound (Hd := Hd) hk (fun b hb => (hHd b).2 (.inl hb)) (fun i vs hf => (hHd _).2 (.inr ⟨i, blk_left (by unfold blk; rw [hf])⟩)) _ _ _ _ hnd hbind hvs1
  have hids := bindG_ids hbind
  have hout : ∀ b ∈ bl ++ cl, (¬ m1.G b ∧ ¬ m1.H b ∧ b < m1.w.heap.size ∧ Mine w0 b) ∧ ∀ j, ¬ blk (ov ++ F) m1 j b := fun b hb => by
    obtain ⟨i, hi, hbi⟩ := a4 b hb
    exact hap i b hi hbi
  have hnG : ∀ b ∈ bl, ¬ Gd b := fun b hb hg => by
    obtain ⟨⟨o1, _⟩, o5⟩ := hout b (List.mem_append_left _ hb)
    exact (hGd b hg).elim o1 fun ⟨j, hj⟩ => o5 j hj
  have hnH : ∀ b ∈ bl, ¬ Hd b := fun b hb hg => by
    obtain ⟨⟨_, o2, _⟩, o5⟩ := hout b (List.mem_append_left _ hb)
    exact ((hHd b).1 hg).elim o2 fun ⟨j, hj⟩ => o5 j hj
  have hblk1 : ∀ j b, blk (ov ++ F) m1 j b → b < m1.w.heap.size := fun j b hj => (hR1.ok.out j b hj).2.2.1
  have hGlive : ∀ b, Gd b → b < m1.w.heap.size := fun b hb => (hGd b hb).elim (hR1.ok.liveG b) fun ⟨j, hj⟩ => hblk1 j b hj
  have hHlive : ∀ b, Hd b → b < m1.w.heap.size := fun b hb => ((hHd b).1 hb).elim (hR1.ok.liveH b) fun ⟨j, hj⟩ => hblk1 j b hj
  have hmine : ∀ b, Mine w0 b → w0.o.heap.size ≤ b := fun b hb => by
    rcases hb with hb | hb
    · exact Nat.le_trans hR1.ok.base.oldS hb
    · exact hR1.ok.base.oldM b hb
  have n12 := List.nodup_append.1 a3
  rw [← hw1]
  refine Calls.mono (hcon k x y m1.w Gd Hd args bl hR1.ok.base.old hGlive hHlive (fun b hb => (hHd b).2 ((hGd b hb).imp (hR1.ok.gh b) fun h => h)) a1 n12.1 (fun b hb => ⟨hnG b hb, hnH b hb, (hout b (List.mem_append_left _ hb)).1.2.2.1, hmine b (hout b (List.mem_append_left _ hb)).1.2.2.2⟩) hy) ?_
  rintro en w' ⟨l, G', b1, b2, rfl, hkept, hG', hres, houts, hnd2, hb12⟩
  -- the views there are then
  obtain ⟨G2, hG2a, hG2b, hG2c, hres2, houts2⟩ : ∃ G2 : Nat → Prop, (∀ b, m1.G b → G2 b) ∧ (∀ b, G2 b → (m1.G b ∨ m1.w.heap.size ≤ b ∨ b ∈ bl) ∧ b < w'.heap.size) ∧ (∀ b ∈ b1 ++ b2, ¬ G2 b) ∧
      ResG w' G2 (takeN c.nres (parts c.res y)) l b1 ∧ OutsG w' G2 c.args args (dropN c.nres (parts c.res y)) b2 := by
    rcases hm with hcl | hgd
    · have hpc := parts_closed (y := y) hcl
      refine ⟨m1.G, fun _ h => h, fun b hb => ⟨.inl hb, Nat.lt_of_lt_of_le (hR1.ok.liveG b hb) hkept.size⟩, fun b hb hg => ?_, ResG.closed (fun p hp => hpc p (by rw [takeN_eq] at hp; exact List.mem_of_mem_take hp)) hres, OutsG.closed (fun p hp => hpc p (by rw [dropN_eq] at hp; exact List.mem_of_mem_drop hp)) houts⟩
      rcases (hb12 b hb).2.2 with h | h
      · have := hR1.ok.liveG b hg; omega
      · exact (hout b (List.mem_append_left _ h)).1.1 hg
    · subst hgd
      refine ⟨fun b => m1.G b ∨ G' b, fun _ h => .inl h, fun b hb => ?_, fun b hb hg => ?_, ?_, ?_⟩
      · rcases hb with hb | hb
        · exact ⟨.inl hb, Nat.lt_of_lt_of_le (hR1.ok.liveG b hb) hkept.size⟩
        · exact hG' b hb
      · rcases hg with hg | hg
        · rcases (hb12 b hb).2.2 with h | h
          · have := hR1.ok.liveG b hg; omega
          · exact (hout b (List.mem_append_left _ h)).1.1 hg
        · exact (hb12 b hb).1 hg
      · exact ResG.grow (fun b hb => .inr hb) hres
      · exact OutsG.grow (fun b hb => .inr hb) houts
  let m2 : St := { m1 with w := w', G := G2, H := fun b => m1.H b ∨ G2 b }
  have hsame : ∀ b, b < m1.w.heap.size → b ∉ bl → w'.heap[b]? = m1.w.heap[b]? := fun b hb hn => hkept.block b hb hn
  have hle : m1.le m2 := ⟨fun b hb => ⟨hG2a b hb, hsame b (hR1.ok.liveG b hb) fun h => (hout b (List.mem_append_left _ h)).1.1 hb⟩, fun b hb => ⟨.inl hb, hsame b (hR1.ok.liveH b hb) fun h => (hout b (List.mem_append_left _ h)).1.2.1 hb⟩, fun _ h => h, fun _ _ => rfl, fun _ _ => rfl, fun _ _ => rfl, fun _ _ => rfl⟩
  have hbase2 : Kept w0 w' := hR1.ok.base.with hkept fun b hb => (hout b (List.mem_append_left _ hb)).1.2.2.2
  have hnobody : ∀ b, (m1.w.heap.size ≤ b ∨ b ∈ bl) → Mine w0 b ∧ ∀ i, ¬ blk (ov ++ F) m1 i b := fun b hb => by
    rcases hb with h | h
    · exact ⟨.inl (Nat.le_trans hR1.ok.base.size h), fun i hi => by have := hblk1 i b hi; omega⟩
    · exact ⟨(hout b (List.mem_append_left _ h)).1.2.2.2, (hout b (List.mem_append_left _ h)).2⟩
  have hR2 : Rel w0 G0 N F m2 ⟨e.slots, ov, e.next⟩ tm := hR1.world hle (hR1.ok.world2 hle hbase2 (fun i b hb => hsame b (hblk1 i b hb) fun h => (hout b (List.mem_append_left _ h)).2 i hb) (fun b hb => ⟨(hG2b b hb).1.imp (fun h => h) (hnobody b), (hG2b b hb).2⟩) (fun b hb => by
    rcases hb with hb | hb
    · exact ⟨.inl hb, Nat.lt_of_lt_of_le (hR1.ok.liveH b hb) hkept.size⟩
    · exact ⟨(hG2b b hb).1.imp (hR1.ok.gh b) (hnobody b), (hG2b b hb).2⟩) hkept.size fun b hb => .inr hb)
  have hb12' : ∀ b ∈ b1 ++ b2, ¬ m2.G b ∧ ¬ m2.H b ∧ b < m2.w.heap.size ∧ Mine w0 b ∧ (∀ i, ¬ blk (ov ++ F) m2 i b) ∧ b ∉ cl := fun b hb => by
    have h2 := hb12 b hb
    have hnew : m1.w.heap.size ≤ b ∨ b ∈ bl := h2.2.2
    have hH : ¬ m1.H b := fun hh => by
      rcases hnew with h | h
      · have := hR1.ok.liveH b hh; omega
      · exact (hout b (List.mem_append_left _ h)).1.2.1 hh
    refine ⟨hG2c b hb, fun hh => hh.elim hH (hG2c b hb), h2.2.1, ?_, fun i hi => ?_, fun hc => ?_⟩
    · rcases hnew with h | h
      · exact .inl (Nat.le_trans hR1.ok.base.size h)
      · exact (hout b (List.mem_append_left _ h)).1.2.2.2
    · have hi : blk (ov ++ F) m1 i b := by
        rw [← blk_le hle hR1.ok.objs]; exact hi
      rcases hnew with h | h
      · have := hblk1 i b hi; omega
      · exact (hout b (List.mem_append_left _ h)).2 i hi
    · rcases hnew with h | h
      · have := (hout b (List.mem_append_right _ hc)).1.2.2.1; omega
      · exact n12.2.2 b h b hc rfl
  have hcl' : ∀ b ∈ cl, ¬ m2.G b ∧ ¬ m2.H b ∧ b < m2.w.heap.size ∧ Mine w0 b ∧ ∀ i, ¬ blk (ov ++ F) m2 i b := fun b hb => by
    obtain ⟨⟨o1, o2, o3, o4⟩, o5⟩ := hout b (List.mem_append_right _ hb)
    have hg : ¬ G2 b := fun hg => (hG2b b hg).1.elim o1 fun h => h.elim (fun h => by omega) fun h => n12.2.2 b h b hb rfl
    refine ⟨hg, fun hh => hh.elim o2 hg, Nat.lt_of_lt_of_le o3 hkept.size, o4, fun i hi => o5 i ?_⟩
    rw [← blk_le hle hR1.ok.objs]; exact hi
  have nn := List.nodup_append.1 hnd2
  have hW : Wait w0 G0 N F (e.next + nmW) m2 ⟨e.slots, ov, e.next⟩ tm ((b2 ++ cl) ++ (b1 ++ [])) := by
    have hmem : ∀ b, b ∈ (b2 ++ cl) ++ (b1 ++ []) → b ∈ b1 ++ b2 ∨ b ∈ cl := fun b hb => by
      simp only [List.mem_append, List.append_nil] at hb ⊢
      rcases hb with (h | h) | h
      · exact .inl (.inr h)
      · exact .inr h
      · exact .inl (.inl h)
    refine ⟨hR2, fun i h1 h2 hd => hfr i h1 h2 (by rw [← hD1]; exact hd), fun i b hb hm => ?_, ?_, fun b hb => ?_⟩
    · rcases hmem b hm with h | h
      · exact (hb12' b h).2.2.2.2.1 i hb
      · exact (hcl' b h).2.2.2.2 i hb
    · rw [List.append_nil]
      refine List.nodup_append.2 ⟨List.nodup_append.2 ⟨nn.2.1, n12.2.1, fun p hp q hq e => ?_⟩, nn.1, fun p hp q hq e => ?_⟩
      · subst e; exact (hb12' p (List.mem_append_right _ hp)).2.2.2.2.2 hq
      · subst e
        rcases List.mem_append.1 hp with hp | hp
        · exact nn.2.2 p hq p hp rfl
        · exact (hb12' p (List.mem_append_left _ hq)).2.2.2.2.2 hp
    · rcases hmem b hb with h | h
      · have := hb12' b h; exact ⟨this.1, this.2.1, this.2.2.1, this.2.2.2.1⟩
      · have := hcl' b h; exact ⟨this.1, this.2.1, this.2.2.1, this.2.2.2.1⟩
  unfold backG at h
  cases hp : putG e.objs ⟨e.slots, ov, e.next⟩ c.args vs (dropN (lenN c.res - nIo c.args) (parts c.res y)) with
  | none => simp [hp] at h
  | some e1 =>
    simp only [hp] at h
    cases hl : Nat.ble (openAll e1 (takeN (lenN c.res - nIo c.args) (parts c.res y))).1.next (e.next + nmW) with
    | false => simp [hl] at h
    | true =>
      simp only [hl] at h
      have hle2 := Nat.le_of_ble_eq_true hl
      have hn1 := openAll_next (takeN (lenN c.res - nIo c.args) (parts c.res y)) e1
      obtain ⟨p1, p2⟩ := putG_next _ _ _ _ _ hp
      have p1 : e.next ≤ e1.next := p1
      obtain ⟨m3, g3, d3, w3⟩ := putG_sound (m0 := m1) c.args vs args _ m2 _ e1 b2 cl (b1 ++ []) houts2 (hvs1.imp fun _ _ hx => Sv.le hle hx) a2 (fun i hi => ⟨hi, rfl⟩) (fun b hb => ⟨hG2a b hb, (hle.G b hb).2⟩) (fun b hb => hsame b (hout b (List.mem_append_right _ hb)).1.2.2.1 fun h => n12.2.2 b h b hb rfl) (fun i hi => by
        obtain ⟨o, ho⟩ := hids i hi
        exact hR.disj i o ho) hp hW (by omega)
      obtain ⟨m4, g4, d4, w4, r4⟩ := openAll_sound (rest := []) _ m3 e1 l b1 (by rw [g3.w, g3.G]; exact hres2) w3 hle2
      refine ⟨asRes l, m4, _, _, rfl, by rw [g4.w, g3.w], ⟨(hl1.trans hle).trans (g3.le.trans g4.le), fun i hi => ?_, by omega, hle2, (openAll_slots _ e1).trans p2⟩, w4.rel, svRes_sv r4, h⟩
      rcases d4 i hi with h | ⟨h1, h2⟩
      · rcases d3 i h with h | ⟨h1, h2⟩
        · exact .inl (by rw [← hD1]; exact h)
        · exact .inr ⟨h1, by omega⟩
      · have : e.next ≤ e1.next := p1
        exact .inr ⟨by omega, h2⟩
theorem callG_sound {f k : Nat} {c : Con} {vs : List SV} {args : List Value} {K : SV → Env → Option ρ} {r : ρ} (hcon : GenCon P w0.o f c) (hR : Rel w0 G0 N F m e tm) (hfr : Fr m e) (hvs : R2 (Sv m) vs args)
    (h : evCallG k nmW c vs e K = some r) : Calls P f args.toArray m.w (Called w0 G0 N F m e tm K r) := by
  unfold evCallG at h
  cases hn : nodupN (ioIds e.objs c.args vs) with
  | false => simp [hn] at h
  | true =>
    simp only [hn] at h
    have hnd := nodupN_nodup _ hn
    cases hc : closedAll c.res with
    | true =>
      simp only [hc] at h
      cases hb : bindG false e.objs (eraseAll (ioIds e.objs c.args vs) e.objs) c.args vs with
      | none => simp [hb] at h
      | some x =>
        simp only [hb] at h
        obtain ⟨y, hy, h⟩ := bnd_some h
        obtain ⟨m1, l1, w1, D1, β1, ν1, hR1, hk, hap⟩ := rel_part hR (ioIds e.objs c.args vs) []
        refine callG_tail (fl := []) (Gd := fun b => m1.G b ∨ ∃ i, blk (eraseAll (ioIds e.objs c.args vs) e.objs ++ F) m1 i b) (Hd := fun b => m1.H b ∨ ∃ i, blk (eraseAll (ioIds e.objs c.args vs) e.objs ++ F) m1 i b) hcon hR hfr hvs hnd hy l1 w1 D1 ν1 hR1 hap
          (st := false) ⟨hk.ho, hk.hov, fun b hb => .inl hb, fun _ i T u n xs b hf hb => .inr ⟨i, blk_left (by
            have hf' : find (eraseAll (ioIds e.objs c.args vs) e.objs) i = some (.row T u n xs) := hf
            unfold blk; rw [hf']; exact hb)⟩, hk.inj⟩ hb (fun b hb => hb) (fun b => Iff.rfl) (.inl hc) h
    | false =>
      simp only [hc] at h
      cases hb : bindG true e.objs (freezeAll (reachAll e.objs vs) (eraseAll (ioIds e.objs c.args vs) e.objs)) c.args vs with
      | none => simp [hb] at h
      | some x =>
        simp only [hb] at h
        obtain ⟨y, hy, h⟩ := bnd_some h
        obtain ⟨m1, l1, w1, D1, β1, ν1, hR1, hk, hap⟩ := rel_part hR (ioIds e.objs c.args vs) (reachAll e.objs vs)
        exact callG_tail (Hd := fun b => m1.H b ∨ ∃ i, blk (freezeAll (reachAll e.objs vs) (eraseAll (ioIds e.objs c.args vs) e.objs) ++ F) m1 i b) hcon hR hfr hvs hnd hy l1 w1 D1 ν1 hR1 hap hk hb (fun b hb => .inl hb) (fun b => Iff.rfl) (.inr rfl) h

theorem call_sound {Δ : List (Nat × Con)} (hΔ : ∀ f c, (f, c) ∈ Δ → (c.gen = false → ConOk P w0.o f c) ∧ Enters' P f ∧ (c.gen = true → GenCon P w0.o f c)) {k f : Nat} {vs : List SV} {args : List Value} {K : SV → Env → Option ρ} {r : ρ} (hR : Rel w0 G0 N F m e tm) (hfr : Fr m e) (hvs : R2 (Sv m) vs args)
    (h : evCall k f vs e K Δ = some r) : Enters' P f ∧ Calls P f args.toArray m.w (Called w0 G0 N F m e tm K r) := by
  induction Δ with
  | nil => simp [evCall] at h
  | cons p Δ ih =>
    obtain ⟨g, c⟩ := p
    have ih := ih fun f c hm => hΔ f c (List.mem_cons_of_mem _ hm)
    simp only [evCall] at h
    cases hg : Nat.beq f g with
    | false => rw [hg] at h; exact ih h
    | true =>
      have := Nat.eq_of_beq_eq_true hg
      subst this
      obtain ⟨hcon, hent, hgen⟩ := hΔ f c List.mem_cons_self
      rw [hg] at h
      simp only at h
      cases hgn : c.gen with
      | true =>
        rw [hgn] at h
        exact ⟨hent, callG_sound (hgen hgn) hR hfr hvs h⟩
      | false =>
      rw [hgn] at h
      simp only at h
      have hcon := hcon hgn
      have hob : ∀ i o, find e.objs i = some o → Ob m i o := fun i o hi => (hR.obj i o hi).2
      cases hfl : flatAll c.res with
      | true =>
        rw [hfl] at h
        simp only at h
        cases hb : bindArgs false e.objs c.args vs with
        | none => rw [hb] at h; exact ih h
        | some x =>
          rw [hb] at h
          obtain ⟨y, hy, hK⟩ := bnd_some h
          refine ⟨hent, Calls.mono (hcon k x y m.w (fun b => b < m.w.heap.size) args hR.ok.base.old (fun _ h => h) hy (bindArgs_sound hob (fun b hb => hR.ok.liveG b hb) hR.ok.liveH (fun i vs hi => (hR.ok.out i _ (blk_left (by unfold blk; rw [hi]))).2.2.1) (fun _ i T u n xs b hi hm => ?_) _ _ _ _ hb hvs)) ?_⟩
          · exact (hR.ok.out i b (blk_left (by unfold blk; rw [hi]; exact hm))).2.2.1
          · intro en w' ⟨l, e1, hbel, hres⟩
            have hle : m.le { m with w := w' } := ⟨fun b hb => ⟨hb, hbel.block b (hR.ok.liveG b hb)⟩, fun b hb => ⟨hb, hbel.block b (hR.ok.liveH b hb)⟩, fun _ h => h, fun _ _ => rfl, fun _ _ => rfl, fun _ _ => rfl, fun _ _ => rfl⟩
            refine ⟨asRes l, { m with w := w' }, e, _, e1, rfl, .same hle rfl rfl, hR.world hle (hR.ok.world hle (hR.ok.base.trans hbel) (fun i b hb => hbel.block b (hR.ok.out i b hb).2.2.1) (fun b hb => ⟨.inl hb, ?_⟩) (fun b hb => ⟨.inl hb, ?_⟩) hbel.size hR.ok.gh), Ress.sv (Ress.flat hfl hres), hK⟩
            · exact Nat.lt_of_lt_of_le (hR.ok.liveG b hb) hbel.size
            · exact Nat.lt_of_lt_of_le (hR.ok.liveH b hb) hbel.size
      | false =>
        rw [hfl] at h
        simp only at h
        cases hb : bindArgs true (e.freeze (reachAll e.objs vs)).objs c.args vs with
        | none => rw [hb] at h; exact ih h
        | some x =>
          rw [hb] at h
          obtain ⟨y, hy, hK⟩ := bnd_some h
          obtain ⟨m1, l1, hw1, hD1, hR1⟩ := hR.freeze (reachAll e.objs vs)
          have hvs1 : R2 (Sv m1) vs args := hvs.imp fun _ _ hx => Sv.le l1 hx
          have hnx : (e.freeze (reachAll e.objs vs)).next = e.next := rfl
          have hsl : (e.freeze (reachAll e.objs vs)).slots = e.slots := rfl
          generalize e.freeze (reachAll e.objs vs) = e1 at hb hK hR1 hnx hsl
          have hob1 : ∀ i o, find e1.objs i = some o → Ob m1 i o := fun i o hi => (hR1.obj i o hi).2
          rw [← hw1]
          refine ⟨hent, Calls.mono (hcon k x y m1.w m1.G args hR1.ok.base.old hR1.ok.liveG hy (bindArgs_sound hob1 (fun b hb => hb) hR1.ok.liveH (fun i vs hi => (hR1.ok.out i _ (blk_left (by unfold blk; rw [hi]))).2.2.1) (fun h => by simp at h) _ _ _ _ hb hvs1)) ?_⟩
          intro en w' ⟨l, e2, hbel, hres⟩
          let m2 : St := { m1 with w := w', G := grown m1.G m1.w w', H := grown m1.H m1.w w' }
          have hle : m1.le m2 := ⟨fun b hb => ⟨.inl hb, hbel.block b (hR1.ok.liveG b hb)⟩, fun b hb => ⟨.inl hb, hbel.block b (hR1.ok.liveH b hb)⟩, fun _ h => h, fun _ _ => rfl, fun _ _ => rfl, fun _ _ => rfl, fun _ _ => rfl⟩
          have gr : ∀ {A : Nat → Prop}, (∀ b, A b → b < m1.w.heap.size) → ∀ b, grown A m1.w w' b → (A b ∨ m1.w.heap.size ≤ b) ∧ b < w'.heap.size := by
            intro A hA b hb
            rcases hb with hb | ⟨h1, h2⟩
            · exact ⟨.inl hb, Nat.lt_of_lt_of_le (hA b hb) hbel.size⟩
            · exact ⟨.inr h1, h2⟩
          exact ⟨asRes l, m2, e1, _, e2, rfl, .same (l1.trans hle) hD1 hnx hsl, hR1.world hle (hR1.ok.world hle (hR1.ok.base.trans hbel) (fun i b hb => hbel.block b (hR1.ok.out i b hb).2.2.1) (gr hR1.ok.liveG) (gr hR1.ok.liveH) hbel.size fun b hb => hb.imp (hR1.ok.gh b) id), Ress.sv hres, hK⟩
end
end Go.Ev
end

section
/- A row of the frame's own is sorted in place. -/
set_option linter.unusedSimpArgs false
set_option linter.unusedVariables false
set_option linter.unusedSectionVars false
namespace Go.Ev
open Go.RowKit (Below)
open Go.Sort (HoldsK putRowK flatK get_flatK size_flatK)
open Go.Proofs (LessB SWB)

theorem sortAt_mem {f T : Nat} : ∀ {Δ : List (Nat × Con)}, sortAt f T Δ = true → ∃ c, (f, c) ∈ Δ ∧ ∃ Ts, c.args = [.srt Ts] ∧ memT Ts T = true
  | [], h => by simp [sortAt] at h
  | (g, c) :: r, h => by
    simp only [sortAt] at h
    cases hg : Nat.beq f g with
    | false =>
      rw [hg] at h
      obtain ⟨c', h1, h2⟩ := sortAt_mem h
      exact ⟨c', List.mem_cons_of_mem _ h1, h2⟩
    | true =>
      have := Nat.eq_of_beq_eq_true hg
      subst this
      rw [hg] at h
      simp only at h
      split at h
      · rename_i Ts hc
        exact ⟨c, List.mem_cons_self, Ts, hc, h⟩
      · cases h

section
variable {P : Program} {w0 : Base} {G0 : Nat → Prop} {N : Nat} {F : List (Nat × Obj)} {m : St} {e : Env} {tm : Array Value} {Γ : Tab} {ρ : Type}

/-- A row of the frame's own holds something else; the heap may have grown. -/
theorem Rel.sorted (hR : Rel w0 G0 N F m e tm) {id U q : Nat} {t : Ty} (ht : t.noOwn = true) {xs ys : List t.den} (ho : find e.objs id = some (.row U t q xs)) {w' : World} (h1 : w'.os = m.w.os) (h2 : w'.tape = m.w.tape) (h3 : w'.output = m.w.output) (h4 : m.w.heap.size ≤ w'.heap.size)
    (h5 : ∀ b, b < m.w.heap.size → (m.ν id).ownBlock ≠ some b → w'.heap[b]? = m.w.heap[b]?) (h6 : RowAt w' m.G U t ys (m.ν id)) : m.le { m with w := w' } ∧ Rel w0 G0 N F { m with w := w' } (e.setObj id (.row U t q ys)) tm := by
  obtain ⟨_, g1, g2, _, g4⟩ := (hR.obj id _ ho).2
  have hσ : m.σ q = (m.ν id).ownBlock.toList := g1.is_own ht
  have hbk : ∀ b, (m.ν id).ownBlock = some b → blk (e.objs ++ F) m id b := fun b hb => blk_left (by unfold blk; rw [ho]; simp only [hσ, hb]; simp)
  have hle : m.le { m with w := w' } := ⟨fun b hb => ⟨hb, h5 b (hR.ok.liveG b hb) fun hh => (hR.ok.out id b (hbk b hh)).1 hb⟩, fun b hb => ⟨hb, h5 b (hR.ok.liveH b hb) fun hh => (hR.ok.out id b (hbk b hh)).2.1 hb⟩, fun _ h => h, fun _ _ => rfl, fun _ _ => rfl, fun _ _ => rfl, fun _ _ => rfl⟩
  have hbase : Kept w0 w' := by
    have hb := hR.ok.base
    have hnew : ∀ k, (m.ν id).ownBlock = some k → Mine w0 k := fun k hh => (hR.ok.out id k (hbk k hh)).2.2.2
    refine ⟨h1.trans hb.os, h2.trans hb.tape, h3.trans hb.output, Nat.le_trans hb.size h4, fun k hk hm => ?_, ⟨h1.trans hb.old.os, h2.trans hb.old.tape, h3.trans hb.old.output, Nat.le_trans hb.old.size h4, fun k hk => ?_⟩, hb.oldM, hb.oldS⟩
    · rw [h5 k (Nat.lt_of_lt_of_le hk hb.size) fun hh => (hnew k hh).elim (fun h => by omega) hm]
      exact hb.block k hk hm
    · rw [h5 k (Nat.lt_of_lt_of_le hk hb.old.size) fun hh => (hnew k hh).elim (fun h => by have := hb.oldS; omega) fun h => by have := hb.oldM k h; omega]
      exact hb.old.block k hk
  have hfind : find (e.objs ++ F) id = some (.row U t q xs) := find_left ho
  have hold : ∀ j, j ≠ id → blk (upd (e.objs ++ F) id (.row U t q ys)) { m with w := w' } j = blk (e.objs ++ F) m j := fun j hj => by
    unfold blk
    rw [find_upd, if_neg (fun e => hj e.symm)]
  have hsame : blk (upd (e.objs ++ F) id (.row U t q ys)) { m with w := w' } id = blk (e.objs ++ F) m id := by
    unfold blk
    rw [find_upd, if_pos rfl, hfind]
    rfl
  have hall : ∀ j, blk (upd (e.objs ++ F) id (.row U t q ys)) { m with w := w' } j = blk (e.objs ++ F) m j := fun j => by
    by_cases hj : j = id
    · subst hj; exact hsame
    · exact hold j hj
  refine ⟨hle, hR.objs hle _ _ (ObjsOk.congr (os := upd (e.objs ++ F) id (.row U t q ys)) ?_ (upd_left _ ho)) (fun i o hf => ?_)⟩
  · refine ⟨hbase, fun j p hf => ?_, fun j k b g1 g2 => hR.ok.inj j k b (by rw [← hall]; exact g1) (by rw [← hall]; exact g2), fun j b g1 => ?_, fun b hg => Nat.lt_of_lt_of_le (hR.ok.liveG b hg) h4, fun b hg => Nat.lt_of_lt_of_le (hR.ok.liveH b hg) h4, hR.ok.subG, hR.ok.gh⟩
    · rw [find_upd] at hf
      by_cases hj : id = j
      · subst hj
        rw [if_pos rfl, hfind] at hf
        simp only [Option.map_some, Option.some.injEq] at hf
        subst hf
        exact ⟨(hR.ok.objs _ _ hfind).1, h6, by show RowIn w' m.G t ys (m.ν id) (m.σ q); rw [hσ]; exact h6.inn ht, g2, HdOk.none ht, g4⟩
      · rw [if_neg hj] at hf
        have hD := hR.ok.objs j p hf
        refine ⟨hD.1, Ob.le hle hD.1 hD.2 (e.objs ++ F) hf fun b hh => h5 b (hR.ok.out j b hh).2.2.1 fun hn => hj (hR.ok.inj _ _ b (hbk b hn) hh)⟩
    · rw [hall] at g1
      obtain ⟨a1, a2, a3, a4⟩ := hR.ok.out j b g1
      exact ⟨a1, a2, Nat.lt_of_lt_of_le a3 h4, a4⟩
  · rw [find_upd] at hf
    by_cases hi : id = i
    · subst hi; exact hR.disj _ _ ho
    · rw [if_neg hi] at hf; exact hR.disj _ _ hf

theorem notGen {c : Con} {os : List (Nat × Obj)} {st : Bool} {vs : List SV} {x : ATs.den c.args} (hf : flatAll c.res = true) (hb : bindArgs st os c.args vs = some x) : c.gen = false := by
  have h1 : ∀ (ats : List AT) (vs : List SV) (x : ATs.den ats), bindArgs st os ats vs = some x → hasIo ats = false := by
    intro ats
    induction ats with
    | nil => intro _ _ _; rfl
    | cons a r ih =>
      intro vs x h
      cases vs with
      | nil => simp [bindArgs] at h
      | cons v vs =>
        simp only [bindArgs] at h
        cases hx : bindArg st os a v with
        | none => simp [hx] at h
        | some y =>
          cases hy : bindArgs st os r vs with
          | none => simp [hx, hy] at h
          | some z =>
            have := ih vs z hy
            cases a with
            | var t => simp [bindArg] at hx
            | io t => simp [bindArg] at hx
            | own t => simp [bindArg] at hx
            | _ => exact this
  have h2 : ∀ ts : List Ty, flatAll ts = true → noOwnAll ts = true := by
    have h3 : ∀ t : Ty, t.flat = true → t.noOwn = true := by
      intro t
      induction t with
      | pair a b iha ihb => intro h; simp only [Ty.flat, Bool.and_eq_true] at h; simp only [Ty.noOwn, Bool.and_eq_true]; exact ⟨iha h.1, ihb h.2⟩
      | osl T t => intro h; simp [Ty.flat] at h
      | _ => intro _; rfl
    intro ts
    induction ts with
    | nil => intro _; rfl
    | cons t r ih => intro h; simp only [flatAll, Bool.and_eq_true] at h; simp only [noOwnAll, Bool.and_eq_true]; exact ⟨h3 t h.1, ih h.2⟩
  unfold Con.gen
  rw [h1 _ _ _ hb, h2 _ hf]
  rfl
/-- the closure's answer, in a state -/
theorem evLess_sound {Δ : List (Nat × Con)} (hΔ : DelOk P w0.o Δ) {k h : Nat} {cs : List Cap} {cv : List Value} {i j : Int} {z : Bool} (hR : Rel w0 G0 N F m e tm) (hc : R2 (Cp m) cs cv) (hl : evLess k h cs e.objs i j Δ = some z) :
    Enters' P h ∧ Calls P h (#[.int .i64 i, .int .i64 j] ++ cv.toArray) m.w fun en w' => en = .returned (.bool z) ∧ Below m.w.heap.size m.w w' := by
  induction Δ with
  | nil => simp [evLess] at hl
  | cons p Δ ih =>
    obtain ⟨g, c⟩ := p
    have ih := ih fun f c hm => hΔ f c (List.mem_cons_of_mem _ hm)
    simp only [evLess] at hl
    cases hg : Nat.beq h g with
    | false => rw [hg] at hl; exact ih hl
    | true =>
      have := Nat.eq_of_beq_eq_true hg
      subst this
      obtain ⟨hcon0, hent, _⟩ := hΔ h c List.mem_cons_self
      rw [hg] at hl
      simp only at hl
      cases hfl : flatAll c.res with
      | false => rw [hfl] at hl; simp at hl
      | true =>
        rw [hfl] at hl
        simp only at hl
        cases hb : bindArgs false e.objs c.args (.one (.i .i64 i) :: .one (.i .i64 j) :: cs.map capSV) with
        | none => rw [hb] at hl; simp at hl
        | some x =>
          rw [hb] at hl
          obtain ⟨y, hy, hK⟩ := bnd_some hl
          have hcon := hcon0 (notGen hfl hb)
          have hvs : R2 (Sv m) (.one (.i .i64 i) :: .one (.i .i64 j) :: cs.map capSV) (.int .i64 i :: .int .i64 j :: cv) := by
            refine ⟨rfl, rfl, ?_⟩
            have key : ∀ (cs : List Cap) (l : List Value), R2 (Cp m) cs l → R2 (Sv m) (cs.map capSV) l := by
              intro cs
              induction cs with
              | nil => intro l hl; cases l with
                | nil => trivial
                | cons => exact absurd hl (by simp [R2])
              | cons c cs ih => intro l hl; cases l with
                | nil => exact absurd hl (by simp [R2])
                | cons v l =>
                  refine ⟨?_, ih l hl.2⟩
                  have h1 := hl.1
                  cases c with
                  | loc id => exact h1
                  | el t x =>
                    obtain ⟨b, o, cs', e, h⟩ := h1
                    exact ⟨b, o, cs', by simpa using e, h⟩
            exact key cs cv hc
          have hob : ∀ i o, find e.objs i = some o → Ob m i o := fun i o hi => (hR.obj i o hi).2
          have harg := bindArgs_sound (Gd := fun b => b < m.w.heap.size) hob (fun b hb => hR.ok.liveG b hb) hR.ok.liveH (fun i vs hi => (hR.ok.out i _ (blk_left (by unfold blk; rw [hi]))).2.2.1) (fun _ i T u n xs b hi hm => (hR.ok.out i b (blk_left (by unfold blk; rw [hi]; exact hm))).2.2.1) _ _ _ _ hb hvs
          have hcall := hcon k x y m.w (fun b => b < m.w.heap.size) _ hR.ok.base.old (fun _ h => h) hy harg
          refine ⟨hent, ?_⟩
          have e1 : (#[.int .i64 i, .int .i64 j] ++ cv.toArray : Array Value) = (Value.int .i64 i :: .int .i64 j :: cv).toArray := by simp
          rw [e1]
          refine Calls.mono hcall ?_
          rintro en w' ⟨l, e2, hbel, hres⟩
          refine ⟨?_, hbel⟩
          have hsv := Ress.sv (m := { m with w := w', G := grown (fun b => b < m.w.heap.size) m.w w' }) (Ress.flat (w' := w') (G' := grown (fun b => b < m.w.heap.size) m.w w') hfl hres)
          unfold asBoolV at hK
          split at hK
          · rename_i q hq
            rw [hq] at hsv
            have hb' : asRes l = .bool q := hsv
            rw [e2, hb']
            simp only [Option.some.injEq] at hK
            rw [hK]
          · cases hK

theorem swb_rowAt {α : Type} [Inhabited α] {enc : α → List Value} {k : Nat} (hk : ∀ x, (enc x).length = k) {w W : World} {b U : Nat} {d0 dk : Array α} {cur : List Value} (hh : w.heap[b]? = some (.cells cur.toArray U (0, 0))) (hH : HoldsK enc k w b 0 d0) (hs : dk.size = d0.size) (h : SWB enc k w b 0 dk W) :
    (∃ cur' : List Value, W.heap[b]? = some (.cells cur'.toArray U (0, 0)) ∧ cur'.length = cur.length) ∧ ∀ j, j < dk.size → CellsAt W b (j * k) (enc dk[j]!) := by
  have hb : b < w.heap.size := heap_lt hh
  constructor
  · have := Below.block h b hb
    refine ⟨(Go.Sort.putCells id 0 (flatK enc k dk) cur.toArray).toList, ?_, by simp [Go.Sort.putCells]⟩
    rw [this]
    simp only [putRowK, Go.Sort.putRow, Go.Sort.mapBlock, Array.getElem?_modify, hh, if_true, Option.map_some, Go.Sort.onCells, Array.toArray_toList]
  · intro j hj q v hq
    have hq' : q < k := by rw [← hk dk[j]!]; exact (List.getElem?_eq_some_iff.1 hq).1
    have := (HoldsK.cell (SWB.holds h hb hH hs) hj hq').1
    rw [Nat.zero_add] at this
    rw [this]
    congr 1
    rw [List.getElem!_eq_getElem?_getD, hq]; rfl

theorem sort_sound {Δ : List (Nat × Con)} (hΓ : TabOk P Γ) (hΔ : DelOk P w0.o Δ) (hR : Rel w0 G0 N F m e tm) {k f T id h : Nat} {cs : List Cap} {args : List Value} {K : SV → Env → Option ρ} {r : ρ} (hvs : R2 (Sv m) [.one (.ifc T id), .one (.clo h cs)] args) (hh : evSort Γ Δ k f T id h cs e K = some r) :
    Enters' P f ∧ Calls P f args.toArray m.w fun en w' => ∃ v m' e' s, en = .returned v ∧ m'.w = w' ∧ Stp m e m' e' ∧ Rel w0 G0 N F m' e' tm ∧ Sv m' s v ∧ K s e' = some r := by
  obtain ⟨a1, a2, rfl⟩ : ∃ a1 a2, args = [a1, a2] := by
    match args, hvs with
    | [a1, a2], _ => exact ⟨a1, a2, rfl⟩
  obtain ⟨⟨hid, e1, -⟩, ⟨cv, e2, hc⟩, -⟩ := hvs
  subst e1; subst e2
  unfold evSort at hh
  cases hsa : sortAt f T Δ with
  | false => rw [hsa] at hh; simp at hh
  | true =>
    obtain ⟨c, hmem, Ts, hargs, hmt⟩ := sortAt_mem hsa
    obtain ⟨-, hent, hsrt, -⟩ := hΔ f c hmem
    unfold SrtCon at hsrt
    rw [hargs] at hsrt
    have hst : StableOk P f T := hsrt T hmt
    refine ⟨hent, ?_⟩
    rw [hsa] at hh
    cases hf : find Γ T with
    | none => rw [hf] at hh; simp at hh
    | some ti =>
      rw [hf] at hh
      cases ho : e.obj id with
      | none => rw [ho] at hh; simp at hh
      | some o =>
        cases o with
        | row U t q xs =>
          rw [ho] at hh
          simp only at hh
          cases hty : isSl ti.ty t && t.noOwn with
          | false => rw [hty] at hh; simp at hh
          | true =>
            rw [hty] at hh
            simp only at hh
            obtain ⟨hcap, hh⟩ := chk_dec hh
            obtain ⟨ys, hys, hK⟩ := bnd_some hh
            have hty2 := Bool.and_eq_true_iff.1 hty
            have ht := hty2.2
            have ho' : find e.objs id = some (.row U t q xs) := ho
            have hrow : RowAt m.w m.G U t xs (m.ν id) := (hR.obj id _ ho').2.1
            have hbk : ∀ b, (m.ν id).ownBlock = some b → blk (e.objs ++ F) m id b := fun b hb => blk_left (by
              unfold blk
              rw [ho']
              simp only [((hR.obj id _ ho').2.2.1).is_own ht, hb]
              simp)
            obtain ⟨hu, hpos, tj, hj, htj, i, z, zs, hi, hsz, -⟩ := elem_info hΓ hf (isSl_of hty2.1)
            by_cases hsm : xs.length ≤ 1
            · rw [srt_small hsm] at hys
              obtain rfl := Option.some.inj hys
              have key : ∃ A n c, m.ν id = .slice A n c ∧ n ≤ 1 := by
                rcases hrow with ⟨g, _⟩ | ⟨b, c, cur, g, _⟩
                · exact ⟨_, _, _, g, by omega⟩
                · exact ⟨_, _, _, g, hsm⟩
              obtain ⟨A, n, c, hν, hn⟩ := key
              have := hst.tiny A n c hn (.func h) #[] cv.toArray m.w
              rw [← hν] at this
              refine Calls.mono this ?_
              rintro en w' ⟨rfl, hbel⟩
              have hr' : RowAt w' m.G U t xs (m.ν id) := RowAt.mono (fun b hb => ⟨hb, hbel.block b (hR.ok.liveG b hb)⟩) hrow fun a n c hs => hbel.block _ (hR.ok.out id a.block (hbk _ (by rw [hs]; rfl))).2.2.1
              obtain ⟨g1, g2⟩ := hR.sorted ht ho' hbel.os hbel.tape hbel.output hbel.size (fun b hb _ => hbel.block b hb) hr'
              exact ⟨_, { m with w := w' }, e.setObj id (.row U t q xs), .tup [], rfl, rfl, .same g1 rfl rfl, g2, ⟨[], rfl, trivial⟩, hK⟩
            · obtain ⟨lt, ⟨hlt, hspec⟩, rfl⟩ := srt_some hys hsm
              rcases hrow with ⟨_, g⟩ | ⟨b, cp, cur, hν, hhp, hc1, hc2, hc3, hx⟩
              · subst g; simp at hsm
              · -- the elements' own cells
                have hx' : ∀ j : Fin xs.length, ∃ cs', CellsAt m.w b (j.1 * t.size) cs' ∧ Val m.w m.G t (xs.getD j.1 t.zero) cs' := fun j => hx j.1 j.2
                obtain ⟨cj, hcj⟩ : ∃ cj : Fin xs.length → List Value, ∀ j, CellsAt m.w b (j.1 * t.size) (cj j) ∧ Val m.w m.G t (xs.getD j.1 t.zero) (cj j) := ⟨fun j => Classical.choose (hx' j), fun j => Classical.choose_spec (hx' j)⟩
                haveI : Inhabited (Fin xs.length) := ⟨⟨0, by omega⟩⟩
                let d : Array (Fin xs.length) := (List.finRange xs.length).toArray
                have hds : d.size = xs.length := by simp [d]
                have hdg : ∀ j (hj : j < xs.length), d[j]! = ⟨j, hj⟩ := fun j hj => by
                  rw [getElem!_pos d j (by rw [hds]; exact hj)]; simp [d]
                have hklen : ∀ x, (cj x).length = t.size := fun x => (hcj x).2.length
                have hH : HoldsK cj t.size m.w b 0 d := by
                  intro q hq
                  rw [size_flatK, hds] at hq
                  have hq1 : q / t.size < xs.length := Nat.div_lt_of_lt_mul (by rw [Nat.mul_comm]; exact hq)
                  have hq2 : q % t.size < t.size := Nat.mod_lt _ hpos
                  constructor
                  · rw [show _root_.id (flatK cj t.size d)[q]! = (flatK cj t.size d)[q]! from rfl, get_flatK _ _ _ _ (by rw [hds]; exact hq), hdg _ hq1]
                    have := (hcj ⟨q / t.size, hq1⟩).1 (q % t.size) ((cj ⟨q / t.size, hq1⟩)[q % t.size]!) (by
                      rw [List.getElem!_eq_getElem?_getD, List.getElem?_eq_getElem (by rw [hklen]; exact hq2)]; rfl)
                    rw [← this]
                    congr 2
                    show 0 + q = q / t.size * t.size + q % t.size
                    rw [Nat.mul_comm, Nat.div_add_mod]; omega
                  · simp [World.frozen?, hhp]
                have hbl : b < m.w.heap.size := heap_lt hhp
                -- an order of the elements, in a world that has grown
                have world : ∀ (dk : Array (Fin xs.length)) (W : World), SWB cj t.size m.w b 0 dk W → dk.size = xs.length → m.le { m with w := W } ∧ Rel w0 G0 N F { m with w := W } (e.setObj id (.row U t q (dk.toList.map fun q => xs.getD q.1 t.zero))) tm := by
                  intro dk W hS hds2
                  obtain ⟨⟨cur', g1, g2⟩, g3⟩ := swb_rowAt hklen hhp hH (hds2.trans hds.symm) hS
                  have hother : ∀ b', b' < m.w.heap.size → b' ≠ b → W.heap[b']? = m.w.heap[b']? := fun b' hb' hne => by
                    rw [Below.block hS b' hb']
                    simp only [putRowK, Go.Sort.putRow, Go.Sort.mapBlock, Array.getElem?_modify, if_neg (Ne.symm hne)]
                  have hown : (m.ν id).ownBlock = some b := by rw [hν]; rfl
                  have hGb : ∀ b', m.G b' → m.G b' ∧ W.heap[b']? = m.w.heap[b']? := fun b' hg => ⟨hg, hother b' (hR.ok.liveG b' hg) fun e => (hR.ok.out id b (hbk b hown)).1 (e ▸ hg)⟩
                  have hos : W.os = m.w.os := by have := Below.os hS; exact this
                  have htp : W.tape = m.w.tape := by have := Below.tape hS; exact this
                  have hou : W.output = m.w.output := by have := Below.output hS; exact this
                  refine hR.sorted ht ho' hos htp hou (SWB.le hS) (fun b' hb' hne => hother b' hb' fun e => hne (by rw [hown, e])) ?_
                  refine .inr ⟨b, cp, cur', by rw [hν]; simp [hds2], g1, by simpa [hds2] using hc1, hc2, by rw [g2]; exact hc3, fun j hj => ?_⟩
                  have hj' : j < dk.size := by simpa using hj
                  refine ⟨cj dk[j]!, g3 j hj', ?_⟩
                  have : (dk.toList.map fun q => xs.getD q.1 t.zero).getD j t.zero = xs.getD dk[j]!.1 t.zero := by
                    rw [getElem!_pos dk j hj']
                    simp [List.getD_eq_getElem?_getD, hj']
                  rw [this]
                  exact Val.mono hGb _ _ _ (hcj _).2
                obtain ⟨U', ie, hU1, hU2, hrun⟩ := hst.many
                have e3 : U' = ti.elem := by
                  rw [hu] at hU1
                  simpa using hU1.symm
                subst e3
                have e4 : ie.size = t.size := by
                  rw [hi] at hU2
                  obtain rfl := Option.some.inj hU2
                  exact hsz
                rw [e4] at hrun
                have hless : LessB P h cv.toArray cj t.size (fun p q => lt (xs.getD p.1 t.zero) (xs.getD q.1 t.zero)) b 0 d.size m.w := by
                  intro W dk hS hds2 i j hi hj
                  rw [hds] at hds2 hi hj
                  obtain ⟨gle, gR⟩ := world dk W hS hds2
                  have hmap : ∀ q, q < xs.length → (dk.toList.map fun q => xs.getD q.1 t.zero).getD q t.zero = xs.getD dk[q]!.1 t.zero := fun q hq => by
                    rw [getElem!_pos dk q (by omega)]
                    simp [List.getD_eq_getElem?_getD, show q < dk.size by omega]
                  have hsp := hspec (dk.toList.map fun q => xs.getD q.1 t.zero) (by simp [hds2]) (fun y hy => by
                    obtain ⟨q, _, rfl⟩ := List.mem_map.1 hy
                    rw [List.getD_eq_getElem?_getD, List.getElem?_eq_getElem q.2]
                    exact List.getElem_mem q.2) i j hi hj
                  rw [hmap i hi, hmap j hj] at hsp
                  exact (evLess_sound hΔ gR (hc.imp fun _ _ hx => Cp.le gle hx) hsp).2
                have hcl := by
                  have hentH : Enters' P h := by
                    have hsp := hspec xs rfl (fun y hy => hy) 0 0 (by omega) (by omega)
                    have hz := world d m.w (SWB.start hH) hds
                    have hxs : (d.toList.map fun q => xs.getD q.1 t.zero) = xs := by
                      apply List.ext_getElem (by simp [d])
                      intro q h1 h2
                      simp [d, List.getD_eq_getElem?_getD, h2]
                    rw [hxs] at hz
                    exact (evLess_sound hΔ hz.2 (hc.imp fun _ _ hx => Cp.le hz.1 hx) hsp).1
                  exact hrun cj hklen (fun x => Val.oneCells (m := m) (hcj x).2) _ (hlt.on fun p : Fin xs.length => xs.getD p.1 t.zero) h cv.toArray hentH b 0 cp d (by omega) (by rw [hds]; unfold capN at hcap; omega) m.w hless hH hbl
                rw [hds, ← hν] at hcl
                refine Calls.mono hcl ?_
                rintro en w' ⟨rfl, hS⟩
                have hlen : (stab (fun p q : Fin xs.length => lt (xs.getD p.1 t.zero) (xs.getD q.1 t.zero)) d.toList).toArray.size = xs.length := by
                  simp [stab_length, d]
                obtain ⟨g1, g2⟩ := world _ w' hS hlen
                have hxs : (d.toList.map fun q => xs.getD q.1 t.zero) = xs := by
                  apply List.ext_getElem (by simp [d])
                  intro q h1 h2
                  simp [d, List.getD_eq_getElem?_getD, h2]
                have hfin : ((stab (fun p q : Fin xs.length => lt (xs.getD p.1 t.zero) (xs.getD q.1 t.zero)) d.toList).toArray.toList.map fun q => xs.getD q.1 t.zero) = stab lt xs := by
                  have := stab_map (lt := lt) (fun q : Fin xs.length => xs.getD q.1 t.zero) d.toList
                  rw [hxs] at this
                  exact this
                rw [hfin] at g2
                exact ⟨_, { m with w := w' }, e.setObj id (.row U t q (stab lt xs)), .tup [], rfl, rfl, .same g1 rfl rfl, g2, ⟨[], rfl, trivial⟩, hK⟩
        | _ => rw [ho] at hh; simp at hh
end
end Go.Ev
end

section
/- One operation. -/
set_option linter.unusedSimpArgs false
set_option linter.unusedVariables false
namespace Go.Ev
open Go.RowKit (Below)

section
variable {P : Program} {w0 : Base} {G0 : Nat → Prop} {N : Nat} {F : List (Nat × Obj)} {m : St} {e : Env} {a : Act} {Γ : Tab} {Δ : List (Nat × Con)} {k : Nat} {ρ : Type}

theorem undef_sv : Sv m (.tup []) undef := ⟨[], rfl, trivial⟩
theorem run_v {s : Sem Value} {w w' : World} {v : Value} (h : s.run P w = .ok v w') : (do pure (Next.value (← s)) : Sem Next).run P w = .ok (.value v) w' := by
  simp only [Sem.run_bind, h, Result.andThen_ok, Sem.run_pure]
theorem run_u {s : Sem Unit} {w w' : World} (h : s.run P w = .ok () w') : (do s; pure Next.skip : Sem Next).run P w = .ok .skip w' := by
  simp only [Sem.run_bind, h, Result.andThen_ok, Sem.run_pure]

theorem valAll_sv (hR : Rel w0 G0 N F m e a.tmps) : ∀ (l : List Operand) (vs : List SV), valAll e l = some vs → R2 (Sv m) vs (l.map a.eval)
  | [], vs, h => by simp only [valAll, Option.some.injEq] at h; subst h; trivial
  | o :: r, vs, h => by
    simp only [valAll] at h
    cases ho : e.val o with
    | none => simp [ho] at h
    | some v =>
      cases hr : valAll e r with
      | none => simp [ho, hr] at h
      | some l =>
        simp only [ho, hr, Option.some.injEq] at h
        subst h
        exact ⟨val_sv hR ho, valAll_sv hR r l hr⟩
theorem caps_sv : ∀ (cs : List Cap) (l : List Value), R2 (Cp m) cs l → R2 (Sv m) (cs.map capSV) l
  | [], [], _ => trivial
  | c :: cs, v :: l, ⟨h1, h2⟩ => by
    refine ⟨?_, caps_sv cs l h2⟩
    cases c with
    | loc id => exact h1
    | el t x =>
      obtain ⟨b, o, cs', e, h⟩ := h1
      exact ⟨b, o, cs', by simpa using e, h⟩
  | [], _ :: _, h => by simp [R2] at h
  | _ :: _, [], h => by simp [R2] at h

/-- What is known behind a step. -/
def Onw (w0 : Base) (G0 : Nat → Prop) (N : Nat) (F : List (Nat × Obj)) (m : St) (e : Env) (tm : Array Value) (rd : Bool) {ρ : Type} (K : SV → Env → Option ρ) (r : ρ) (m' : St) (e' : Env) (s : SV) (v : Value) : Prop :=
  Stp m e m' e' ∧ (rd = true → ∀ i, i ≠ e.next → find e'.objs i = find e.objs i) ∧ Rel w0 G0 N F m' e' tm ∧ Sv m' s v ∧ K s e' = some r

theorem builtin_sound (hΓ : TabOk P Γ) (hR : Rel w0 G0 N F m e a.tmps) (hfr : ¬ m.D e.next) {b : Builtin} {ts : Array TypeId} {type : TypeId} {consts : Array Bool} {vs : List SV} {args : List Value} {K : SV → Env → Option ρ} {r : ρ} (hvs : R2 (Sv m) vs args)
    (h : evBuiltin Γ b ts.toList vs e K = some r) (ats : Array Operand) (us : Array TypeId) : ∃ m' e' s v, (builtin b ts type consts args.toArray).run P m.w = .ok (.value v) m'.w ∧ Onw w0 G0 N F m e a.tmps (reads (.call ⟨.builtin b, ats, us⟩)) K r m' e' s v := by
  have same : ∀ i, i ≠ e.next → find e.objs i = find e.objs i := fun _ _ => rfl
  unfold evBuiltin at h
  split at h
  · rename_i v
    cases args with
    | nil => exact absurd hvs (by simp [R2])
    | cons u l =>
      cases l with
      | cons => exact absurd hvs.2 (by simp [R2])
      | nil =>
        cases hts : ts.toList with
        | nil => simp [hts] at h
        | cons T tl =>
          simp only [hts] at h
          cases hf : find Γ T with
          | none => simp [hf] at h
          | some ti =>
            simp only [hf] at h
            cases hl : lenOf e ti.ty v with
            | none => simp [hl] at h
            | some n =>
              simp only [hl] at h
              have hT : ts[0]? = some T := by rw [← Array.getElem?_toList, hts]; rfl
              exact ⟨m, e, .one (.i .i64 n), _, run_v (len_sound hΓ hR hf hl hvs.1 ts hT type), .refl m e, fun _ => same, hR, rfl, h⟩
  · rename_i s x
    cases args with
    | nil => exact absurd hvs (by simp [R2])
    | cons u l =>
      cases l with
      | nil => exact absurd hvs.2 (by simp [R2])
      | cons u2 l =>
        cases l with
        | cons => exact absurd hvs.2.2 (by simp [R2])
        | nil =>
          split at h
          · rename_i T U hts
            cases hTU : Nat.beq T U with
            | false => simp [hTU] at h
            | true =>
              simp only [hTU] at h
              have := Nat.eq_of_beq_eq_true hTU
              subst this
              have hts' : ts = #[T, T] := by
                apply Array.ext'
                rw [hts]
              subst hts'
              obtain ⟨m', e', s', v', g1, g2, g3, g4, g5⟩ := evAppend_sound (P := P) (ty := type) hΓ hR h hvs.1 hvs.2.1 hfr
              exact ⟨m', e', s', v', run_v g1, g2, fun hr => by simp [reads] at hr, g3, g4, g5⟩
          · simp at h
  · rename_i kk x j y
    cases args with
    | nil => exact absurd hvs (by simp [R2])
    | cons u l =>
      cases l with
      | nil => exact absurd hvs.2 (by simp [R2])
      | cons u2 l =>
        cases l with
        | cons => exact absurd hvs.2.2 (by simp [R2])
        | nil =>
          have h1 : u = .int kk x := hvs.1
          have h2 : u2 = .int j y := hvs.2.1
          subst h1; subst h2
          cases hk : kEq kk j with
          | false => simp [hk] at h
          | true =>
            simp only [hk] at h
            exact ⟨m, e, .one (.i kk (min x y)), _, run_v (Lib.run_min_ints m.w ts type kk j x y), .refl m e, fun _ => same, hR, rfl, h⟩
  · rename_i kk x j y
    cases args with
    | nil => exact absurd hvs (by simp [R2])
    | cons u l =>
      cases l with
      | nil => exact absurd hvs.2 (by simp [R2])
      | cons u2 l =>
        cases l with
        | cons => exact absurd hvs.2.2 (by simp [R2])
        | nil =>
          have h1 : u = .int kk x := hvs.1
          have h2 : u2 = .int j y := hvs.2.1
          subst h1; subst h2
          cases hk : kEq kk j with
          | false => simp [hk] at h
          | true =>
            simp only [hk] at h
            exact ⟨m, e, .one (.i kk (max x y)), _, run_v (Lib.run_max_ints m.w ts type kk j x y), .refl m e, fun _ => same, hR, rfl, h⟩
  · simp at h

theorem bnd1 {o : Operand} {x : V} (hR : Rel w0 G0 N F m e a.tmps) (h : e.one o = some x) : Lv m x (a.eval o) := one_lv hR h

theorem op_sound (hΓ : TabOk P Γ) (hΔ : DelOk P w0.o Δ) (hR : Rel w0 G0 N F m e a.tmps) (hfrs : Fr m e) (o : Oper) {K : SV → Env → Option ρ} {r : ρ} (h : evOp Γ Δ k o.op e K = some r)
    {next : Act → World → Prop} {Q : Exit → Act → World → Prop} (hn : ∀ m' e' s v, Onw w0 G0 N F m e a.tmps (reads o.op) K r m' e' s v → next (a.put o.dst v) m'.w) : o.wp P a m.w next Q := by
  obtain ⟨dst, op, type, pos, after, guard⟩ := o
  simp only at h hn
  have hfr := hfrs.one
  have same : ∀ i, i ≠ e.next → find e.objs i = find e.objs i := fun _ _ => rfl
  have fresh : ∀ (ob : Obj) i, i ≠ e.next → find (e.new ob).objs i = find e.objs i := fun ob i hi => by
    simp only [Env.new, find_cons]
    rw [if_neg fun e => hi e.symm]
  cases op with
  | move x =>
    simp only [evOp] at h
    cases hx : e.val x with
    | none => simp [hx] at h
    | some v =>
      simp only [hx] at h
      exact wp_value (by simp only [execOp]; rfl) (hn m e v _ ⟨.refl m e, fun _ => same, hR, val_sv hR hx, h⟩)
  | assign x =>
    simp only [evOp] at h
    cases hx : e.val x with
    | none => simp [hx] at h
    | some v =>
      simp only [hx] at h
      exact wp_value (by simp only [execOp]; rfl) (hn m e v _ ⟨.refl m e, fun _ => same, hR, val_sv hR hx, h⟩)
  | pick c x y =>
    simp only [evOp] at h
    cases hc : e.one c with
    | none => simp [hc] at h
    | some v =>
      have hl := one_lv hR hc
      cases v with
      | b z =>
        simp only [Lv] at hl
        simp only [hc] at h
        cases z with
        | true =>
          simp only [br, cond] at h
          cases hx : e.val x with
          | none => simp [hx] at h
          | some v =>
            simp only [hx] at h
            exact wp_value (w' := m.w) (v := a.eval x) (by simp [execOp, hl, asBool]) (hn m e v _ ⟨.refl m e, fun _ => same, hR, val_sv hR hx, h⟩)
        | false =>
          simp only [br, cond] at h
          cases hx : e.val y with
          | none => simp [hx] at h
          | some v =>
            simp only [hx] at h
            exact wp_value (w' := m.w) (v := a.eval y) (by simp [execOp, hl, asBool]) (hn m e v _ ⟨.refl m e, fun _ => same, hR, val_sv hR hx, h⟩)
      | _ => simp [hc] at h
  | alloc T =>
    simp only [evOp] at h
    cases hf : find Γ T with
    | none => simp [hf] at h
    | some ti =>
      simp only [hf] at h
      obtain ⟨m', v, g1, g2, g3, g4⟩ := alloc_sound hΓ hR hf hfr
      exact wp_value (run_v g1) (hn m' _ (.one (.loc e.next 0)) v ⟨g2, fun _ => fresh _, g3, g4, h⟩)
  | box T x =>
    simp only [evOp] at h
    cases hx : e.val x with
    | none => simp [hx] at h
    | some s =>
      simp only [hx] at h
      cases ht : s.isTup with
      | true => simp [ht] at h
      | false =>
        simp only [ht] at h
        obtain ⟨m', v, g1, g2, g3, g4⟩ := box_sound (P := P) (T := T) hR (val_sv hR hx) ht hfr
        exact wp_value (run_v g1) (hn m' _ (.one (.loc e.next 0)) v ⟨g2, fun _ => fresh _, g3, g4, h⟩)
  | makeInterface T x =>
    simp only [evOp] at h
    cases hf : find Γ T with
    | none => simp [hf] at h
    | some ti =>
      cases hx : e.one x with
      | none => simp [hf, hx] at h
      | some v =>
        have hl := one_lv hR hx
        cases v with
        | row id =>
          simp only [hf, hx] at h
          cases ht : ti.ty.era with
          | sl t =>
            rw [ht] at h
            simp only at h
            obtain ⟨t', ht', _⟩ := era_sl ht
            obtain ⟨hu, _⟩ := elem_info hΓ hf ht'
            obtain ⟨hid, hv, A, n, c, hs⟩ := hl
            refine wp_value (w' := m.w) (v := .iface T (a.eval x)) ?_ (hn m e (.one (.ifc T id)) _ ⟨.refl m e, fun _ => same, hR, ⟨hid, by rw [hv], A, n, c, by rw [← hv]; exact hs⟩, h⟩)
            exact run_v (by simp [Instr.makeInterface, run_underlying hu])
          | _ => rw [ht] at h; simp at h
        | _ => simp [hf, hx] at h
  | build T parts =>
    simp only [evOp] at h
    cases hf : find Γ T with
    | none => simp [hf] at h
    | some ti =>
      simp only [hf] at h
      cases h0 : Nat.beq ti.elem 0 with
      | true =>
        rw [h0] at h
        simp only at h
        cases hb : evBuild ti e parts.toList (zeros ti.ty []) with
        | none => simp [hb] at h
        | some l =>
          simp only [hb] at h
          cases ha : ti.ty.isAgg with
          | false => simp [ha] at h
          | true =>
            simp only [ha] at h
            obtain ⟨v, g1, g2⟩ := build_sound hΓ hR hf (Nat.eq_of_beq_eq_true h0) ha parts hb
            exact wp_value (run_v g1) (hn m e _ v ⟨.refl m e, fun _ => same, hR, g2, h⟩)
      | false =>
        rw [h0] at h
        simp only at h
        cases hj : find Γ ti.elem with
        | none => simp [hj] at h
        | some tj =>
          simp only [hj] at h
          cases hb : evBuildA tj.ty.size e parts.toList (zeros ti.ty []) with
          | none => simp [hb] at h
          | some l =>
            simp only [hb] at h
            cases ha : ti.ty.isAgg with
            | false => simp [ha] at h
            | true =>
              simp only [ha] at h
              obtain ⟨v, g1, g2⟩ := buildA_sound hΓ hR hf (fun e => by rw [e] at h0; simp at h0) hj ha parts hb
              exact wp_value (run_v g1) (hn m e _ v ⟨.refl m e, fun _ => same, hR, g2, h⟩)
  | buildSlice T n parts =>
    simp only [evOp] at h
    cases hf : find Γ T with
    | none => simp [hf] at h
    | some ti =>
      simp only [hf] at h
      cases hj : find Γ ti.elem with
      | none => simp [hj] at h
      | some tj =>
        simp only [hj] at h
        cases hnd : nodupN (partOwn tj.ty e parts.toList) with
        | false => simp [hnd] at h
        | true =>
        cases hb : evElems tj.ty e.objs (partEnv tj.ty e parts.toList) 0 parts.toList with
        | none => simp [hnd, hb] at h
        | some xs =>
          simp only [hnd, hb] at h
          cases h1 : Nat.beq (lenN parts.toList) n with
          | false => simp [h1] at h
          | true =>
            cases h2 : Nat.ble (n * tj.ty.size) 16777216 with
            | false => simp [h1, h2] at h
            | true =>
              simp only [h1, h2] at h
              cases h3 : isSl ti.ty tj.ty with
              | false => simp [h3] at h
              | true =>
                simp only [h3] at h
                obtain ⟨hu, hpos, _⟩ := elem_info hΓ hf (isSl_of h3)
                obtain ⟨m', v, g1, g2, g3, g4⟩ := buildSlice_sound hΓ hR hf hu hj hpos n parts hnd hb h1 h2 hfr
                exact wp_value (run_v g1) (hn m' _ (.one (.row e.next)) v ⟨g2, fun hr => by simp [reads] at hr, g3, g4, h⟩)
  | load T x =>
    simp only [evOp] at h
    cases hx : e.one x with
    | none => simp [hx] at h
    | some v =>
      simp only [hx] at h
      obtain ⟨sv, z, g1, g2, g3⟩ := load_sound hΓ hR h (one_lv hR hx)
      exact wp_value (run_v g1) (hn m e sv z ⟨.refl m e, fun _ => same, hR, g2, g3⟩)
  | store T x y =>
    simp only [evOp] at h
    cases hx : e.one x with
    | none => simp [hx] at h
    | some p =>
      cases hy : e.val y with
      | none => simp [hx, hy] at h
      | some v =>
        simp only [hx, hy] at h
        cases hos : ownStore Γ T p v e with
        | some e' =>
          rw [hos] at h
          obtain ⟨m', g1, g2, g3⟩ := ownStore_sound (P := P) hΓ hR hfrs hos (one_lv hR hx) (val_sv hR hy)
          exact wp_skip' (run_u g1) (hn m' e' _ _ ⟨g2, fun hr => by simp [reads] at hr, g3, undef_sv, h⟩)
        | none =>
        rw [hos] at h
        simp only at h
        obtain ⟨m', e', g1, g2, _, g3, g4⟩ := store_sound hΓ hR h (one_lv hR hx) (val_sv hR hy)
        exact wp_skip' (run_u g1) (hn m' e' _ _ ⟨g2, fun hr => by simp [reads] at hr, g3, undef_sv, g4⟩)
  | nilCheck x =>
    simp only [evOp] at h
    cases hx : e.one x with
    | none => simp [hx] at h
    | some v =>
      have hl := one_lv hR hx
      cases v with
      | loc id off =>
        simp only [hx] at h
        refine wp_value (w' := m.w) (v := a.eval x) ?_ (hn m e (.one (.loc id off)) _ ⟨.refl m e, fun _ => same, hR, hl, h⟩)
        simp only [execOp, hl.2]; rfl
      | el t y off =>
        simp only [hx] at h
        refine wp_value (w' := m.w) (v := a.eval x) ?_ (hn m e (.one (.el t y off)) _ ⟨.refl m e, fun _ => same, hR, hl, h⟩)
        obtain ⟨b, o, cs, e1, _⟩ := hl
        simp only [execOp, e1]; rfl
      | rel id sz j off =>
        simp only [hx] at h
        refine wp_value (w' := m.w) (v := a.eval x) ?_ (hn m e (.one (.rel id sz j off)) _ ⟨.refl m e, fun _ => same, hR, hl, h⟩)
        obtain ⟨_, b, n, c, _, _, e1⟩ := hl
        simp only [execOp, e1]; rfl
      | _ => simp [hx] at h
  | binOp op T x y yT =>
    simp only [evOp] at h
    cases hf : find Γ T with
    | none => simp [hf] at h
    | some ti =>
      cases hx : e.val x with
      | none => simp [hf, hx] at h
      | some u =>
        cases hy : e.val y with
        | none => simp [hf, hx, hy] at h
        | some v =>
          simp only [hf, hx, hy] at h
          cases h00 : (ti.ty.isAgg && !Nat.beq ti.elem 0) with
          | true => rw [h00] at h; simp at h
          | false =>
          rw [h00] at h
          simp only at h
          obtain ⟨sv, z, g1, g2, g3⟩ := evBin_sound (m := m) hΓ hf h00 h (val_sv hR hx) (val_sv hR hy) x y m.w
          exact wp_value (run_v g1) (hn m e sv z ⟨.refl m e, fun _ => same, hR, g2, g3⟩)
  | unOp op T x =>
    simp only [evOp] at h
    cases hx : e.one x with
    | none => simp [hx] at h
    | some v =>
      simp only [hx] at h
      obtain ⟨sv, z, g1, g2, g3⟩ := evUn_sound (P := P) (m := m) h (one_lv hR hx) m.w
      exact wp_value (run_v g1) (hn m e sv z ⟨.refl m e, fun _ => same, hR, g2, g3⟩)
  | convert src dst' x =>
    simp only [evOp] at h
    cases hs : find Γ src with
    | none => simp [hs] at h
    | some tj =>
      cases hd : find Γ dst' with
      | none => simp [hs, hd] at h
      | some ti =>
        cases hx : e.one x with
        | none => simp [hs, hd, hx] at h
        | some v =>
          simp only [hs, hd, hx] at h
          obtain ⟨m', sv, z, g1, g2, _, g3, g4, g5⟩ := conv_sound hΓ hR hs hd h (one_lv hR hx)
          exact wp_value (run_v g1) (hn m' e sv z ⟨g2, fun _ => same, g3, g4, g5⟩)
  | makeFunc fn first caps =>
    cases fn with
    | func f =>
      simp only [evOp] at h
      cases hfi : first.toList with
      | cons => simp [hfi] at h
      | nil =>
        cases hc : evCaps e caps.toList with
        | none => simp [hfi, hc] at h
        | some l =>
          simp only [hfi, hc] at h
          have hcs := caps_sound hR _ _ hc
          have hf0 : first = #[] := by apply Array.ext'; rw [hfi]
          subst hf0
          refine wp_value (w' := m.w) (v := .func (.func f) #[] (caps.map a.eval)) (run_v (by simp [Instr.makeFunc])) (hn m e (.one (.clo f l)) _ ⟨.refl m e, fun _ => same, hR, ⟨caps.toList.map a.eval, ?_, hcs⟩, h⟩)
          congr 1
          apply Array.ext'
          simp
    | _ => simp [evOp] at h
  | makeSlice T l c =>
    simp only [evOp] at h
    cases hf : find Γ T with
    | none => simp [hf] at h
    | some ti =>
      simp only [hf] at h
      cases hj : find Γ ti.elem with
      | none => simp [hj] at h
      | some tj =>
        simp only [hj] at h
        cases h3 : isSl ti.ty tj.ty with
        | false => simp [h3] at h
        | true =>
          simp only [h3] at h
          cases hl : e.one l with
          | none => simp [hl] at h
          | some vl =>
            cases hc : e.one c with
            | none => cases vl <;> simp [hl, hc] at h
            | some vc =>
              have l1 := one_lv hR hl
              have l2 := one_lv hR hc
              cases vl with
              | i kl n =>
                cases vc with
                | i kc n' =>
                  simp only [hl, hc] at h
                  obtain ⟨e1, k1⟩ := chk_some h
                  obtain ⟨h0, k2⟩ := chk_dec k1
                  obtain ⟨hcap, k3⟩ := chk_dec k2
                  have e1' : n = n' := by simpa using e1
                  clear h k1 k2
                  subst e1'
                  simp only [Lv] at l1 l2
                  obtain ⟨hu, hpos, _⟩ := elem_info hΓ hf (isSl_of h3)
                  obtain ⟨m', v, g1, g2, g3, g4⟩ := makeSlice_sound hΓ hR hf hu hj hpos kl kc h0 hcap hfr
                  refine wp_value (w' := m'.w) (v := v) ?_ (hn m' _ (.one (.row e.next)) v ⟨g2, fun _ => fresh _, g3, g4, k3⟩)
                  simp only [execOp, l1, l2]
                  exact run_v g1
                | _ => simp [hl, hc] at h
              | _ => simp [hl] at h
  | slice T x lo hi mx =>
    cases mx with
    | some => simp [evOp] at h
    | none =>
      simp only [evOp] at h
      cases hf : find Γ T with
      | none => simp [hf] at h
      | some ti =>
        cases hx : e.one x with
        | none => simp [hf, hx] at h
        | some v =>
          simp only [hf, hx] at h
          have hl := one_lv hR hx
          unfold evSlice at h
          cases hlo : bound e lo with
          | none => simp [hlo] at h
          | some l =>
            cases hhi : bound e hi with
            | none => simp [hlo, hhi] at h
            | some hh =>
              simp only [hlo, hhi] at h
              cases v with
              | s y =>
                simp only at h
                cases ht : tyEq ti.ty .str with
                | false => simp [ht] at h
                | true =>
                  simp only [ht] at h
                  obtain ⟨s, e1, rfl⟩ := hl
                  obtain ⟨sv, z, g1, g2, g3⟩ := sliceS_sound hΓ hf (tyEq_eq ht) hR hlo hhi h
                  refine wp_value (w' := m.w) (v := z) ?_ (hn m e sv z ⟨.refl m e, fun _ => same, hR, g2, g3⟩)
                  simp only [execOp, e1]
                  exact run_v g1
              | sl t xs =>
                simp only at h
                cases ht : tyEq ti.ty.era (.sl t) with
                | false => simp [ht] at h
                | true =>
                  simp only [ht] at h
                  obtain ⟨sv, z, g1, g2, g3⟩ := sliceN_sound hΓ hf (tyEq_eq ht) hl hR hlo hhi h
                  exact wp_value (run_v g1) (hn m e sv z ⟨.refl m e, fun _ => same, hR, g2, g3⟩)
              | row id =>
                simp only at h
                obtain ⟨hid, hv, A0, n0, c0, hs0⟩ := hl
                cases ho : e.obj id with
                | none => simp [ho] at h
                | some o =>
                  have hob := (hR.obj id _ ho).2
                  cases o with
                  | row U t q xs =>
                    simp only [ho] at h
                    cases ht : isSl ti.ty t with
                    | false => simp [ht] at h
                    | true =>
                      simp only [ht] at h
                      have hν : ∃ A c, m.ν id = .slice A xs.length c ∧ xs.length ≤ c := by
                        rcases hob.1 with ⟨e1, rfl⟩ | ⟨b, c, cs, e1, _, hc, _⟩
                        · exact ⟨none, 0, e1, Nat.le_refl _⟩
                        · exact ⟨_, c, e1, hc⟩
                      obtain ⟨A, c, hν, hc⟩ := hν
                      have hA0 : A = A.map (·.add (0 * t.size)) := by
                        rcases hob.1 with ⟨e1, _⟩ | ⟨b, c', cs, e1, _⟩
                        · rw [hν] at e1
                          simp only [Value.slice.injEq] at e1
                          rw [e1.1]; rfl
                        · rw [hν] at e1
                          simp only [Value.slice.injEq] at e1
                          rw [e1.1]
                          simp only [Option.map_some, addr_add, Nat.zero_mul, Nat.add_zero]
                      obtain ⟨sv, z, g1, g2, g3⟩ := sliceR_sound (A' := A) (c' := c) (len := xs.length) (lo := 0) hΓ hf ht hid hob.1 hν (by omega) hc (fun _ => hA0) (fun _ => ⟨rfl, rfl⟩) hR hlo hhi h
                      rw [hν] at hv
                      refine wp_value (w' := m.w) (v := z) ?_ (hn m e sv z ⟨.refl m e, fun _ => same, hR, g2, g3⟩)
                      simp only [execOp, hv]
                      exact run_v g1
                  | frow t xs =>
                    simp only [ho] at h
                    cases ht : tyEq ti.ty.era (.sl t) with
                    | false => simp [ht] at h
                    | true =>
                      simp only [ht] at h
                      have hv' : Val m.w m.G (.sl t) xs [a.eval x] := by rw [hv]; exact hob
                      obtain ⟨sv, z, g1, g2, g3⟩ := sliceN_sound hΓ hf (tyEq_eq ht) hv' hR hlo hhi h
                      exact wp_value (run_v g1) (hn m e sv z ⟨.refl m e, fun _ => same, hR, g2, g3⟩)
                  | _ => simp [ho] at h
              | rng id sz lo' hi' =>
                simp only at h
                have hl0 := hl
                obtain ⟨hid, hle, A, n, c, A', c', hν, hn', hv, hc', hA, h0⟩ := hl
                cases ho : e.obj id with
                | none => simp [ho] at h
                | some o =>
                  have hob := (hR.obj id _ ho).2
                  cases o with
                  | row U t q xs =>
                    simp only [ho] at h
                    cases ht : isSl ti.ty t && Nat.beq sz t.size with
                    | false => simp [ht] at h
                    | true =>
                      simp only [ht] at h
                      rw [Bool.and_eq_true] at ht
                      have hz := Nat.eq_of_beq_eq_true ht.2
                      subst hz
                      obtain ⟨sv, z, g1, g2, g3⟩ := sliceR_sound (A' := A') (c' := c') (len := hi' - lo') (lo := lo') hΓ hf ht.1 hid hob.1 hν (by omega) hc' (fun hh => hA (by omega)) h0 hR hlo hhi h
                      refine wp_value (w' := m.w) (v := z) ?_ (hn m e sv z ⟨.refl m e, fun _ => same, hR, g2, g3⟩)
                      simp only [execOp, hv]
                      exact run_v g1
                  | frow t xs =>
                    simp only [ho] at h
                    cases ht : tyEq ti.ty.era (.sl t) && Nat.beq sz t.size with
                    | false => simp [ht] at h
                    | true =>
                      simp only [ht] at h
                      rw [Bool.and_eq_true] at ht
                      have hz := Nat.eq_of_beq_eq_true ht.2
                      have hv' := rng_val (Gd := m.G) hob hz.symm hl0
                      obtain ⟨sv, z, g1, g2, g3⟩ := sliceN_sound hΓ hf (tyEq_eq ht.1) hv' hR hlo hhi h
                      exact wp_value (run_v g1) (hn m e sv z ⟨.refl m e, fun _ => same, hR, g2, g3⟩)
                  | _ => simp [ho] at h
              | _ => simp at h
  | fieldAddr T x i =>
    simp only [evOp] at h
    cases hf : find Γ T with
    | none => simp [hf] at h
    | some ti =>
      simp only [hf] at h
      cases hd : nth ti.offs i with
      | none => simp [hd] at h
      | some d =>
        cases ha : ti.ty.isAgg with
        | false => simp [hd, ha] at h
        | true =>
          simp only [hd, ha] at h
          cases hx : e.one x with
          | none => simp [hx] at h
          | some v =>
            have hl := one_lv hR hx
            cases v with
            | loc id off =>
              simp only [hx] at h
              obtain ⟨hid, e1⟩ := hl
              refine wp_value (w' := m.w) (v := .pointer (some ⟨m.β id, off + d, none⟩)) ?_ (hn m e (.one (.loc id (off + d))) _ ⟨.refl m e, fun _ => same, hR, ⟨hid, rfl⟩, h⟩)
              simp only [execOp, e1]
              exact run_v (fieldAt_run hΓ hf hd ha m.w _ _)
            | el t y off =>
              simp only [hx] at h
              obtain ⟨b, o, cs, e1, hH, hc, hv⟩ := hl
              refine wp_value (w' := m.w) (v := .pointer (some ⟨b, o + off + d, none⟩)) ?_ (hn m e (.one (.el t y (off + d))) _ ⟨.refl m e, fun _ => same, hR, ⟨b, o, cs, by rw [Nat.add_assoc], hH, hc, hv⟩, h⟩)
              simp only [execOp, e1]
              exact run_v (fieldAt_run hΓ hf hd ha m.w _ _)
            | rel id sz j off =>
              simp only [hx] at h
              obtain ⟨hid, b, n, c, hν, hj, e1⟩ := hl
              refine wp_value (w' := m.w) (v := .pointer (some ⟨b, j * sz + off + d, none⟩)) ?_ (hn m e (.one (.rel id sz j (off + d))) _ ⟨.refl m e, fun _ => same, hR, ⟨hid, b, n, c, hν, hj, by rw [Nat.add_assoc]⟩, h⟩)
              simp only [execOp, e1]
              exact run_v (fieldAt_run hΓ hf hd ha m.w _ _)
            | _ => simp [hx] at h
  | indexAddr T x i =>
    simp only [evOp] at h
    cases hf : find Γ T with
    | none => simp [hf] at h
    | some ti =>
      cases hx : e.one x with
      | none => simp [hf, hx] at h
      | some v =>
        cases hi : e.one i with
        | none => simp [hf, hx, hi] at h
        | some j =>
          have hl := one_lv hR hi
          cases j with
          | i kj n =>
            simp only [hf, hx, hi] at h
            simp only [Lv] at hl
            obtain ⟨sv, z, g1, g2, g3⟩ := indexAddr_sound (k := kj) hΓ hR hf h (one_lv hR hx)
            refine wp_value (w' := m.w) (v := z) ?_ (hn m e sv z ⟨.refl m e, fun _ => same, hR, g2, g3⟩)
            simp only [execOp, hl]
            exact run_v g1
          | _ => simp [hf, hx, hi] at h
  | index T x i =>
    simp only [evOp] at h
    cases hf : find Γ T with
    | none => simp [hf] at h
    | some ti =>
      cases hx : e.one x with
      | none =>
        cases hi : e.one i with
        | none => simp [hf, hx, hi] at h
        | some jv =>
          have hl := one_lv hR hi
          cases jv with
          | i kj n =>
            simp only [hf, hx, hi] at h
            cases hv : e.val x with
            | none => simp [hv] at h
            | some v =>
              simp only [hv] at h
              obtain ⟨z, kk, q, g1, g2, g3⟩ := indexArr_sound (P := P) (kk := kj) hΓ hf h (val_sv hR hv)
              refine wp_value (w' := m.w) (v := z) ?_ (hn m e (.one (.i kk q)) z ⟨.refl m e, fun _ => same, hR, g2, g3⟩)
              simp only [Lv] at hl
              simp only [execOp, hl]
              exact run_v g1
          | _ => simp [hf, hx, hi] at h
      | some v =>
        cases hi : e.one i with
        | none => cases v <;> simp [hf, hx, hi] at h
        | some j =>
          have h1 := one_lv hR hx
          have hl := one_lv hR hi
          cases v with
          | s y =>
            cases j with
            | i kj n =>
              simp only [hf, hx, hi] at h
              cases ht : tyEq ti.ty .str with
              | false => simp [ht] at h
              | true =>
                simp only [ht] at h
                obtain ⟨h0, h⟩ := chk_dec h
                obtain ⟨hlt, h⟩ := chk_dec h
                simp only [Lv] at hl
                obtain ⟨s, e1, rfl⟩ := h1
                refine wp_value (w' := m.w) (v := _) ?_ (hn m e (.one (.i .u8 ((s.data.toList.getD n.toNat 0).toNat : Nat))) _ ⟨.refl m e, fun _ => same, hR, rfl, h⟩)
                simp only [execOp, hl, e1]
                exact run_v (index_sound (P := P) hΓ hf (tyEq_eq ht) h0 hlt m.w)
            | _ => simp [hf, hx, hi] at h
          | _ => simp [hf, hx] at h
  | extract x i =>
    simp only [evOp] at h
    cases hx : e.val x with
    | none => simp [hx] at h
    | some v =>
      have hs := val_sv hR hx
      cases v with
      | tup l =>
        simp only [hx] at h
        cases hi : nth l i with
        | none => simp [hi] at h
        | some p =>
          obtain ⟨z, g1, g2⟩ := extract_sound (P := P) hs hi m.w
          obtain ⟨bb, vs⟩ := p
          rcases g2 with ⟨hb, cs, e1, hr⟩ | ⟨hb, v', ev, hr⟩
          · simp only at hb
            subst hb
            simp only [hi] at h
            exact wp_value (run_v g1) (hn m e (.agg vs) z ⟨.refl m e, fun _ => same, hR, ⟨cs, e1, hr⟩, h⟩)
          · simp only at hb ev
            subst hb; subst ev
            simp only [hi] at h
            exact wp_value (run_v g1) (hn m e (.one v') z ⟨.refl m e, fun _ => same, hR, hr, h⟩)
      | _ => simp [hx] at h
  | call c =>
    obtain ⟨callee, args, ts⟩ := c
    cases callee with
    | builtin b =>
      simp only [evOp] at h
      cases hv : valAll e args.toList with
      | none => simp [hv] at h
      | some vs =>
        simp only [hv] at h
        obtain ⟨m', e', s, v, g1, g2⟩ := builtin_sound (P := P) (type := type) (consts := args.map fun | .const _ => true | _ => false) hΓ hR hfr (valAll_sv hR _ _ hv) h args ts
        refine wp_value (w' := m'.w) (v := v) ?_ (hn m' e' s v g2)
        have e1 : (args.toList.map a.eval).toArray = args.map a.eval := by apply Array.ext'; simp
        rw [e1] at g1
        simp only [execOp, resolve, Sem.run_bind, Sem.run_pure, Result.andThen_ok, invoke]
        exact g1
    | value f =>
      simp only [evOp] at h
      cases hx : e.one f with
      | none => simp [hx] at h
      | some v =>
        have hl := one_lv hR hx
        cases v with
        | clo g caps =>
          cases hv : valAll e args.toList with
          | none => simp [hx, hv] at h
          | some vs =>
            simp only [hx, hv] at h
            obtain ⟨cv, e1, hc⟩ := hl
            have hvs := (valAll_sv hR _ _ hv).append (caps_sv _ _ hc)
            have hboth : Enters' P g ∧ Calls P g (args.toList.map a.eval ++ cv).toArray m.w fun en w' => ∃ v m' e' s, en = .returned v ∧ m'.w = w' ∧ Stp m e m' e' ∧ Rel w0 G0 N F m' e' a.tmps ∧ Sv m' s v ∧ K s e' = some r := by
              cases hsa : sortArgs (vs ++ caps.map capSV) with
              | none =>
                rw [hsa] at h
                exact call_sound (fun f c hm => ⟨(hΔ f c hm).1, (hΔ f c hm).2.1, (hΔ f c hm).2.2.2⟩) hR hfrs hvs h
              | some q =>
                obtain ⟨T, id, hh, cs⟩ := q
                rw [hsa] at h
                have heq : vs ++ caps.map capSV = [.one (.ifc T id), .one (.clo hh cs)] := by
                  unfold sortArgs at hsa
                  split at hsa
                  · rename_i T' id' h' cs' he
                    simp only [Option.some.injEq, Prod.mk.injEq] at hsa
                    obtain ⟨rfl, rfl, rfl, rfl⟩ := hsa
                    exact he
                  · cases hsa
                rw [heq] at hvs
                exact sort_sound hΓ hΔ hR hvs h
            obtain ⟨hent, hcall⟩ := hboth
            have hrun : (execOp a.eval ⟨dst, .call ⟨.value f, args, ts⟩, type, pos, after, guard⟩).run P m.w = .ok (.enter g (args.toList.map a.eval ++ cv).toArray) m.w := by
              simp only [execOp, resolve, e1, Deferred.ofValue, Sem.run_bind, Sem.run_pure, Result.andThen_ok, invoke]
              have e2 : (#[] ++ args.map a.eval ++ cv.toArray) = (args.toList.map a.eval ++ cv).toArray := by apply Array.ext'; simp
              rw [e2]
              exact hent _ _
            unfold Oper.wp
            rw [hrun, Oper.upon_enter]
            refine Calls.mono hcall ?_
            intro en w' ⟨v, m', e', s, e3, hw, g1, g2, g3, g4⟩
            subst e3; subst hw
            exact hn m' e' s v ⟨g1, fun hr => by simp [reads] at hr, g2, g3, g4⟩
        | _ => simp [hx] at h
    | invoke r n => simp [evOp] at h
  | _ => simp [evOp] at h
end
end Go.Ev
end
