/- What an environment says of the frame and the world. -/
import Derived.Test.YticlnmiakaelkaaEvRun
import Derived.Below
import Derived.Deep.MidRow
import Derived.Great.BuildSlice
import Derived.Laws.MakeOwn
import Derived.Laws.OwnMore
import Derived.Laws.Slices
set_option linter.unusedSimpArgs false
set_option linter.unusedVariables false
namespace Go.Ev
open Go.RowKit (Below)

/-- element by element -/
def R2 {α β : Type} (r : α → β → Prop) : List α → List β → Prop
  | [], [] => True
  | a :: l, b :: m => r a b ∧ R2 r l m
  | _, _ => False

/-- The cells cs lie in block b from o on. -/
abbrev CellsAt (w : World) (b o : Nat) (cs : List Value) : Prop := w.rangeAt b o cs

/-- The cells cs hold x; G: blocks that nobody writes. -/
def Val (w : World) (G : Nat → Prop) : (t : Ty) → t.den → List Value → Prop
  | .int k, n, cs => cs = [.int k n]
  | .bool, x, cs => cs = [.bool x]
  | .str, x, cs => ∃ s : ByteArray, cs = [.string s] ∧ s.data.toList = x
  | .sl t, xs, cs => ∃ A n c, cs = [.slice A n c] ∧ xs.length = n ∧ n ≤ c ∧
      ∀ j, j < xs.length → ∃ a cs', A = some a ∧ a.spot = none ∧ G a.block ∧ CellsAt w a.block (a.off + j * t.size) cs' ∧ Val w G t (xs.getD j t.zero) cs'
  | .pair p q, x, cs => ∃ c1 c2, cs = c1 ++ c2 ∧ Val w G p x.1 c1 ∧ Val w G q x.2 c2
  | .unit, _, cs => cs = []

/-- One state: the world; the blocks that nobody writes (G: what views lead to; H: what is pointed at); where the frame's own lie; which names are taken. -/
structure St where
  w : World
  G : Nat → Prop
  H : Nat → Prop
  β : Nat → Nat
  ν : Nat → Value
  D : Nat → Prop

def Cp (m : St) : Cap → Value → Prop
  | .loc id, v => m.D id ∧ v = .pointer (some ⟨m.β id, 0, none⟩)
  | .el t x, v => ∃ b o cs, v = .pointer (some ⟨b, o, none⟩) ∧ m.H b ∧ CellsAt m.w b o cs ∧ Val m.w m.G t x cs

def Lv (m : St) : V → Value → Prop
  | .i k n, v => v = .int k n
  | .b x, v => v = .bool x
  | .s x, v => ∃ s : ByteArray, v = .string s ∧ s.data.toList = x
  | .sl t xs, v => Val m.w m.G (.sl t) xs [v]
  | .nil, v => v = .slice none 0 0
  | .row id, v => m.D id ∧ v = m.ν id ∧ ∃ A n c, v = .slice A n c
  | .loc id off, v => m.D id ∧ v = .pointer (some ⟨m.β id, off, none⟩)
  | .el t x off, v => ∃ b o cs, v = .pointer (some ⟨b, o + off, none⟩) ∧ m.H b ∧ CellsAt m.w b o cs ∧ Val m.w m.G t x cs
  | .rel id sz j off, v => m.D id ∧ ∃ b n c, m.ν id = .slice (some ⟨b, 0, none⟩) n c ∧ j < n ∧ v = .pointer (some ⟨b, j * sz + off, none⟩)
  | .clo f caps, v => ∃ cv : List Value, v = .func (.func f) #[] cv.toArray ∧ R2 (Cp m) caps cv

def Pv (m : St) (p : Bool × List V) (x : Value) : Prop :=
  (p.1 = true ∧ ∃ cs : List Value, x = .agg cs.toArray ∧ R2 (Lv m) p.2 cs) ∨ (p.1 = false ∧ ∃ v, p.2 = [v] ∧ Lv m v x)

def Sv (m : St) : SV → Value → Prop
  | .one v, x => Lv m v x
  | .agg vs, x => ∃ cs : List Value, x = .agg cs.toArray ∧ R2 (Lv m) vs cs
  | .tup l, x => ∃ xs : List Value, x = .tuple xs.toArray ∧ R2 (Pv m) l xs

/-- A row of the frame's own. -/
def RowAt (w : World) (G : Nat → Prop) (T : Nat) (t : Ty) (xs : List t.den) (v : Value) : Prop :=
  (v = .slice none 0 0 ∧ xs = []) ∨ ∃ b c, ∃ cs : List Value, v = .slice (some ⟨b, 0, none⟩) xs.length c ∧ w.heap[b]? = some (.cells cs.toArray T (0, 0)) ∧
    xs.length ≤ c ∧ c ≤ maxLen ∧ cs.length = c * t.size ∧
    ∀ j, j < xs.length → ∃ cs', CellsAt w b (j * t.size) cs' ∧ Val w G t (xs.getD j t.zero) cs'

def Ob (m : St) (i : Nat) : Obj → Prop
  | .var vs => ∃ (cs : List Value) (T : Nat), m.w.heap[m.β i]? = some (.cells cs.toArray T (0, 0)) ∧ R2 (Lv m) vs cs
  | .row T t xs => RowAt m.w m.G T t xs (m.ν i)
  | .frow t xs => Val m.w m.G (.sl t) xs [m.ν i]

/-- The block that an object of the frame's own may write. -/
def blk (os : List (Nat × Obj)) (m : St) (i : Nat) : Option Nat := match find os i with
  | some (.var _) => some (m.β i)
  | some (.row _ _ _) => (m.ν i).ownBlock
  | _ => none
theorem ownBlock_some {v : Value} {b : Nat} (h : v.ownBlock = some b) : ∃ a n c, v = .slice (some a) n c ∧ a.block = b := by
  cases v with
  | slice a n c =>
    cases a with
    | none => simp [Value.ownBlock] at h
    | some a => exact ⟨a, n, c, rfl, by simpa [Value.ownBlock] using h⟩
  | _ => simp [Value.ownBlock] at h

structure ObjsOk (w0 : World) (G0 : Nat → Prop) (m : St) (os : List (Nat × Obj)) : Prop where
  base : Below w0.heap.size w0 m.w
  objs : ∀ i o, find os i = some o → m.D i ∧ Ob m i o
  inj : ∀ i j b, blk os m i = some b → blk os m j = some b → i = j
  out : ∀ i b, blk os m i = some b → ¬ m.G b ∧ ¬ m.H b ∧ b < m.w.heap.size ∧ w0.heap.size ≤ b
  liveG : ∀ b, m.G b → b < m.w.heap.size
  liveH : ∀ b, m.H b → b < m.w.heap.size
  subG : ∀ b, m.G b → G0 b ∨ w0.heap.size ≤ b
  gh : ∀ b, m.G b → m.H b

/-- F: objects that lie beside the environment's own. -/
structure Rel (w0 : World) (G0 : Nat → Prop) (N : Nat) (F : List (Nat × Obj)) (m : St) (e : Env) (tm : Array Value) : Prop where
  ok : ObjsOk w0 G0 m (e.objs ++ F)
  disj : ∀ i o, find e.objs i = some o → find F i = none
  tms : tm.size = N
  slots : ∀ t sv, find e.slots t = some sv → ∃ v, tm[t]? = some v ∧ Sv m sv v

/-! ### lists -/
theorem R2.imp {α β : Type} {r r' : α → β → Prop} (h : ∀ a b, r a b → r' a b) : ∀ {l : List α} {m : List β}, R2 r l m → R2 r' l m
  | [], [], _ => trivial
  | _ :: _, _ :: _, ⟨x, y⟩ => ⟨h _ _ x, R2.imp h y⟩
theorem R2.length {α β : Type} {r : α → β → Prop} : ∀ {l : List α} {m : List β}, R2 r l m → l.length = m.length
  | [], [], _ => rfl
  | _ :: _, _ :: _, ⟨_, y⟩ => by simp [R2.length y]
theorem R2.append {α β : Type} {r : α → β → Prop} : ∀ {l l' : List α} {m m' : List β}, R2 r l m → R2 r l' m' → R2 r (l ++ l') (m ++ m')
  | [], _, [], _, _, h => h
  | _ :: _, _, _ :: _, _, ⟨x, y⟩, h => ⟨x, R2.append y h⟩
theorem R2.split {α β : Type} {r : α → β → Prop} : ∀ {l l' : List α} {m : List β}, R2 r (l ++ l') m → ∃ m1 m2, m = m1 ++ m2 ∧ R2 r l m1 ∧ R2 r l' m2
  | [], _, m, h => ⟨[], m, rfl, trivial, h⟩
  | a :: l, l', [], h => by simp [R2] at h
  | a :: l, l', b :: m, ⟨x, y⟩ => by
    obtain ⟨m1, m2, rfl, h1, h2⟩ := R2.split y
    exact ⟨b :: m1, m2, rfl, ⟨x, h1⟩, h2⟩
theorem lenN_eq {α : Type} : ∀ l : List α, lenN l = l.length
  | [] => rfl
  | _ :: l => by simp [lenN, lenN_eq l]
theorem takeN_eq {α : Type} : ∀ (n : Nat) (l : List α), takeN n l = l.take n
  | 0, l => by simp [takeN]
  | n + 1, [] => by simp [takeN]
  | n + 1, a :: l => by simp [takeN, takeN_eq n l]
theorem dropN_eq {α : Type} : ∀ (n : Nat) (l : List α), dropN n l = l.drop n
  | 0, l => by simp [dropN]
  | n + 1, [] => by simp [dropN]
  | n + 1, a :: l => by simp [dropN, dropN_eq n l]
theorem nth_eq {α : Type} : ∀ (l : List α) (n : Nat), nth l n = l[n]?
  | [], n => by cases n <;> simp [nth]
  | a :: l, 0 => by simp [nth]
  | a :: l, n + 1 => by simp [nth, nth_eq l n]
theorem R2.take {α β : Type} {r : α → β → Prop} : ∀ (n : Nat) {l : List α} {m : List β}, R2 r l m → R2 r (l.take n) (m.take n)
  | 0, _, _, _ => by simp [R2]
  | n + 1, [], [], _ => by simp [R2]
  | n + 1, _ :: _, _ :: _, ⟨x, y⟩ => ⟨x, R2.take n y⟩
theorem R2.drop {α β : Type} {r : α → β → Prop} : ∀ (n : Nat) {l : List α} {m : List β}, R2 r l m → R2 r (l.drop n) (m.drop n)
  | 0, _, _, h => h
  | n + 1, [], [], _ => by simp [R2]
  | n + 1, _ :: _, _ :: _, ⟨_, y⟩ => by simpa using R2.drop n y
theorem R2.get {α β : Type} {r : α → β → Prop} : ∀ {l : List α} {m : List β} (_ : R2 r l m) (j : Nat) (a : α), l[j]? = some a → ∃ b, m[j]? = some b ∧ r a b
  | _ :: _, b :: _, ⟨x, _⟩, 0, a, h => ⟨b, rfl, by simp at h; exact h ▸ x⟩
  | _ :: _, _ :: _, ⟨_, y⟩, j + 1, a, h => by simpa using R2.get y j a (by simpa using h)
  | [], [], _, j, a, h => by simp at h
theorem paste_eq {α : Type} : ∀ (l : List α) (n : Nat) (ys : List α), n + ys.length ≤ l.length → paste l n ys = l.take n ++ ys ++ l.drop (n + ys.length)
  | l, 0, [], _ => by cases l <;> simp [paste]
  | [], 0, y :: ys, h => by simp at h
  | [], n + 1, ys, h => by simp at h
  | a :: l, 0, y :: ys, h => by
    have := paste_eq l 0 ys (by simp at h; omega)
    simp [paste, this]
  | a :: l, n + 1, ys, h => by
    have := paste_eq l n ys (by simp at h; omega)
    simp [paste, this, show n + 1 + ys.length = n + ys.length + 1 from by omega]
theorem R2.paste {α β : Type} {r : α → β → Prop} {l : List α} {m : List β} {ys : List α} {zs : List β} {n : Nat} (h : R2 r l m) (h' : R2 r ys zs) (hn : n + ys.length ≤ l.length) : R2 r (paste l n ys) (m.take n ++ zs ++ m.drop (n + zs.length)) := by
  rw [paste_eq l n ys hn, ← h'.length]
  exact (h.take n |>.append h').append (h.drop _)
theorem beq_ne {k j : Nat} (h : ¬ k = j) : Nat.beq k j = false := by
  cases hb : Nat.beq k j
  · rfl
  · exact absurd (Nat.eq_of_beq_eq_true hb) h
theorem beq_self (k : Nat) : Nat.beq k k = true := by simp
theorem find_upd {α : Type} : ∀ (l : List (Nat × α)) (i j : Nat) (x : α), find (upd l i x) j = if i = j then (find l i).map (fun _ => x) else find l j
  | [], i, j, x => by simp [upd, find]
  | (k, v) :: r, i, j, x => by
    have ih := find_upd r i j x
    simp only [upd, find]
    by_cases h : k = i
    · subst h
      have e : Nat.beq k k = true := by simp
      simp only [e]
      by_cases h2 : k = j
      · subst h2; simp [find, e]
      · have e2 : Nat.beq k j = false := beq_ne h2
        simp [find, e2, h2]
    · have e : Nat.beq k i = false := beq_ne h
      simp only [e]
      by_cases h2 : k = j
      · subst h2
        have e2 : Nat.beq k k = true := by simp
        have h3 : ¬ i = k := fun hh => h hh.symm
        simp [find, e2, h3]
      · have e2 : Nat.beq k j = false := beq_ne h2
        simp only [find, e2, ih]
theorem find_erase {α : Type} : ∀ (l : List (Nat × Obj)) (i j : Nat), find (erase l i) j = if i = j then none else find l j
  | [], i, j => by simp [erase, find]
  | (k, v) :: r, i, j => by
    have ih := find_erase (α := α) r i j
    simp only [erase]
    by_cases h : k = i
    · subst h
      have e : Nat.beq k k = true := by simp
      simp only [e, ih]
      by_cases h2 : k = j
      · simp [h2]
      · have e2 : Nat.beq k j = false := beq_ne h2
        simp [find, e2, h2]
    · have e : Nat.beq k i = false := beq_ne h
      simp only [e]
      by_cases h2 : k = j
      · subst h2
        have e2 : Nat.beq k k = true := by simp
        have h3 : ¬ i = k := fun hh => h hh.symm
        simp [find, e2, h3]
      · have e2 : Nat.beq k j = false := beq_ne h2
        simp only [find, e2, ih]
theorem find_append {α : Type} : ∀ (l l' : List (Nat × α)) (i : Nat), find (l ++ l') i = match find l i with
    | some x => some x
    | none => find l' i
  | [], _, _ => rfl
  | (k, v) :: r, l', i => by
    simp only [List.cons_append, find]
    cases Nat.beq k i with
    | true => rfl
    | false => exact find_append r l' i
theorem find_left {α : Type} {l l' : List (Nat × α)} {i : Nat} {x : α} (h : find l i = some x) : find (l ++ l') i = some x := by rw [find_append, h]
theorem find_cons {α : Type} (l : List (Nat × α)) (i j : Nat) (x : α) : find ((i, x) :: l) j = if i = j then some x else find l j := by
  simp only [find]
  by_cases h : i = j
  · subst h; simp
  · have e : Nat.beq i j = false := beq_ne h
    simp [e, h]

/-! ### what is read stays as it is -/
/-- From m to m' nothing that views and pointers lead to has turned. -/
structure St.le (m m' : St) : Prop where
  G : ∀ b, m.G b → m'.G b ∧ m'.w.heap[b]? = m.w.heap[b]?
  H : ∀ b, m.H b → m'.H b ∧ m'.w.heap[b]? = m.w.heap[b]?
  D : ∀ i, m.D i → m'.D i
  β : ∀ i, m.D i → m'.β i = m.β i
  ν : ∀ i, m.D i → m'.ν i = m.ν i
theorem St.le.refl (m : St) : m.le m := ⟨fun _ h => ⟨h, rfl⟩, fun _ h => ⟨h, rfl⟩, fun _ h => h, fun _ _ => rfl, fun _ _ => rfl⟩
theorem St.le.trans {a b c : St} (h : a.le b) (k : b.le c) : a.le c :=
  ⟨fun x hx => ⟨(k.G x (h.G x hx).1).1, (k.G x (h.G x hx).1).2.trans (h.G x hx).2⟩,
   fun x hx => ⟨(k.H x (h.H x hx).1).1, (k.H x (h.H x hx).1).2.trans (h.H x hx).2⟩,
   fun i hi => k.D i (h.D i hi), fun i hi => (k.β i (h.D i hi)).trans (h.β i hi), fun i hi => (k.ν i (h.D i hi)).trans (h.ν i hi)⟩

theorem cellsAt_same {w w' : World} {b o : Nat} {cs : List Value} (h : CellsAt w b o cs) (he : w'.heap[b]? = w.heap[b]?) : CellsAt w' b o cs :=
  fun j v hv => (World.cell?_of_block (w := w) (w' := w') (a := ⟨b, o + j, none⟩) he).trans (h j v hv)
theorem Val.mono {w w' : World} {G G' : Nat → Prop} (hG : ∀ b, G b → G' b ∧ w'.heap[b]? = w.heap[b]?) : ∀ (t : Ty) (x : t.den) (cs : List Value), Val w G t x cs → Val w' G' t x cs
  | .int _, _, _, h => h
  | .bool, _, _, h => h
  | .str, _, _, h => h
  | .unit, _, _, h => h
  | .pair p q, x, _, ⟨c1, c2, e, h1, h2⟩ => ⟨c1, c2, e, Val.mono hG p x.1 c1 h1, Val.mono hG q x.2 c2 h2⟩
  | .sl t, xs, _, ⟨A, n, c, e, hl, hc, hx⟩ => ⟨A, n, c, e, hl, hc, fun j hj => by
    obtain ⟨a, cs', ea, hs, hg, hcs, hv⟩ := hx j hj
    exact ⟨a, cs', ea, hs, (hG _ hg).1, cellsAt_same hcs (hG _ hg).2, Val.mono hG t _ _ hv⟩⟩
theorem Val.le {m m' : St} (h : m.le m') {t : Ty} {x : t.den} {cs : List Value} (hv : Val m.w m.G t x cs) : Val m'.w m'.G t x cs := Val.mono (fun b hb => h.G b hb) t x cs hv
theorem Cp.le {m m' : St} (h : m.le m') : ∀ {c : Cap} {v : Value}, Cp m c v → Cp m' c v
  | .loc id, _, ⟨hi, e⟩ => ⟨h.D _ hi, by rw [h.β id hi]; exact e⟩
  | .el t x, _, ⟨b, o, cs, e, hH, hc, hv⟩ => ⟨b, o, cs, e, (h.H b hH).1, cellsAt_same hc (h.H b hH).2, hv.le h⟩
theorem Lv.le {m m' : St} (h : m.le m') : ∀ {x : V} {v : Value}, Lv m x v → Lv m' x v
  | .i .., _, e => e
  | .b _, _, e => e
  | .s _, _, e => e
  | .nil, _, e => e
  | .sl t xs, _, e => Val.le (t := .sl t) h e
  | .row id, _, ⟨hi, e, s⟩ => ⟨h.D _ hi, by rw [h.ν id hi]; exact e, s⟩
  | .loc id off, _, ⟨hi, e⟩ => ⟨h.D _ hi, by rw [h.β id hi]; exact e⟩
  | .el t x off, _, ⟨b, o, cs, e, hH, hc, hv⟩ => ⟨b, o, cs, e, (h.H b hH).1, cellsAt_same hc (h.H b hH).2, hv.le h⟩
  | .rel id sz j off, _, ⟨hi, b, n, c, e, hj, hv⟩ => ⟨h.D _ hi, b, n, c, by rw [h.ν id hi]; exact e, hj, hv⟩
  | .clo f caps, _, ⟨cv, e, hc⟩ => ⟨cv, e, hc.imp fun _ _ hx => Cp.le h hx⟩
theorem Pv.le {m m' : St} (h : m.le m') {p : Bool × List V} {x : Value} (hp : Pv m p x) : Pv m' p x := by
  rcases hp with ⟨e, cs, ex, hr⟩ | ⟨e, v, ev, hv⟩
  · exact .inl ⟨e, cs, ex, hr.imp fun _ _ hx => Lv.le h hx⟩
  · exact .inr ⟨e, v, ev, Lv.le h hv⟩
theorem Sv.le {m m' : St} (h : m.le m') : ∀ {s : SV} {x : Value}, Sv m s x → Sv m' s x
  | .one _, _, e => Lv.le h e
  | .agg _, _, ⟨cs, e, hr⟩ => ⟨cs, e, hr.imp fun _ _ hx => Lv.le h hx⟩
  | .tup _, _, ⟨xs, e, hr⟩ => ⟨xs, e, hr.imp fun _ _ hx => Pv.le h hx⟩
theorem RowAt.mono {w w' : World} {G G' : Nat → Prop} (hG : ∀ b, G b → G' b ∧ w'.heap[b]? = w.heap[b]?) {T : Nat} {t : Ty} {xs : List t.den} {v : Value} (h : RowAt w G T t xs v)
    (hb : ∀ a n c, v = .slice (some a) n c → w'.heap[a.block]? = w.heap[a.block]?) : RowAt w' G' T t xs v := by
  rcases h with h | ⟨b, c, cs, e, hh, h1, h2, h3, hx⟩
  · exact .inl h
  · have he := hb _ _ _ e
    refine .inr ⟨b, c, cs, e, by rw [he]; exact hh, h1, h2, h3, fun j hj => ?_⟩
    obtain ⟨cs', hc, hv⟩ := hx j hj
    exact ⟨cs', cellsAt_same hc he, Val.mono hG _ _ _ hv⟩
/-- An object that nobody has written. -/
theorem Ob.le {m m' : St} (h : m.le m') {i : Nat} {o : Obj} (hi : m.D i) (ho : Ob m i o) (os : List (Nat × Obj)) (hf : find os i = some o) (hb : ∀ b, blk os m i = some b → m'.w.heap[b]? = m.w.heap[b]?) : Ob m' i o := by
  cases o with
  | var vs =>
    obtain ⟨cs, T, hh, hr⟩ := ho
    have he := hb (m.β i) (by simp [blk, hf])
    exact ⟨cs, T, by rw [h.β i hi, he]; exact hh, hr.imp fun _ _ hx => Lv.le h hx⟩
  | row T t xs =>
    show RowAt m'.w m'.G T t xs (m'.ν i)
    rw [h.ν i hi]
    exact RowAt.mono (fun b hb => h.G b hb) ho fun a n c e => hb a.block (by simp [blk, hf, e, Value.ownBlock])
  | frow t xs =>
    show Val m'.w m'.G (.sl t) xs [m'.ν i]
    rw [h.ν i hi]
    exact Val.le (t := .sl t) h ho

/-! ### values and their cells -/
theorem Val.length {w : World} {G : Nat → Prop} : ∀ {t : Ty} {x : t.den} {cs : List Value}, Val w G t x cs → cs.length = t.size
  | .int _, _, _, h => by simp only [Val] at h; subst h; rfl
  | .bool, _, _, h => by simp only [Val] at h; subst h; rfl
  | .str, _, _, ⟨_, h, _⟩ => by subst h; rfl
  | .unit, _, _, h => by simp only [Val] at h; subst h; rfl
  | .sl _, _, _, ⟨_, _, _, h, _⟩ => by subst h; rfl
  | .pair _ _, _, _, ⟨c1, c2, e, h1, h2⟩ => by subst e; simp [Ty.size, Val.length h1, Val.length h2]
theorem enc_append : ∀ (t : Ty) (x : t.den) (l : List V), enc t x l = enc t x [] ++ l
  | .int _, _, _ => rfl
  | .bool, _, _ => rfl
  | .str, _, _ => rfl
  | .sl _, _, _ => rfl
  | .unit, _, _ => rfl
  | .pair a b, x, l => by simp only [enc]; rw [enc_append a x.1 (enc b x.2 l), enc_append b x.2 l, enc_append a x.1 (enc b x.2 []), List.append_assoc]
/-- the cells of an encoded value -/
theorem Val.enc {m : St} : ∀ {t : Ty} {x : t.den} {cs : List Value}, Val m.w m.G t x cs → R2 (Lv m) (enc t x []) cs
  | .int _, _, _, h => by simp only [Val] at h; subst h; exact ⟨rfl, trivial⟩
  | .bool, _, _, h => by simp only [Val] at h; subst h; exact ⟨rfl, trivial⟩
  | .str, _, _, ⟨s, h, e⟩ => by subst h; exact ⟨⟨s, rfl, e⟩, trivial⟩
  | .sl t, xs, _, ⟨A, n, c, h, r⟩ => by subst h; exact ⟨⟨A, n, c, rfl, r⟩, trivial⟩
  | .unit, _, _, h => by simp only [Val] at h; subst h; exact trivial
  | .pair a b, x, _, ⟨c1, c2, e, h1, h2⟩ => by
    subst e
    simp only [Ev.enc]
    rw [enc_append]
    exact (Val.enc h1).append (Val.enc h2)
theorem enc_val {m : St} : ∀ {t : Ty} {x : t.den} {cs : List Value}, R2 (Lv m) (enc t x []) cs → Val m.w m.G t x cs
  | .int _, _, [_], ⟨h, _⟩ => by simp only [Lv] at h; subst h; rfl
  | .bool, _, [_], ⟨h, _⟩ => by simp only [Lv] at h; subst h; rfl
  | .str, _, [_], ⟨⟨s, h, e⟩, _⟩ => ⟨s, by rw [h], e⟩
  | .sl t, xs, [v], ⟨h, _⟩ => h
  | .unit, _, [], _ => rfl
  | .pair a b, x, cs, h => by
    simp only [enc] at h
    rw [enc_append] at h
    obtain ⟨c1, c2, e, h1, h2⟩ := h.split
    exact ⟨c1, c2, e, enc_val h1, enc_val h2⟩
theorem cast?_some {a b : Ty} {x : a.den} {y : b.den} (h : cast? a b x = some y) : ∃ e : a = b, e ▸ x = y := by
  unfold cast? at h
  cases hd : Ty.decEq a b with
  | isTrue e => rw [hd] at h; exact ⟨e, by simpa using h⟩
  | isFalse e => rw [hd] at h; simp at h
theorem Val.cast {w : World} {G : Nat → Prop} {a b : Ty} {x : a.den} {y : b.den} {cs : List Value} (h : cast? a b x = some y) (hv : Val w G a x cs) : Val w G b y cs := by
  obtain ⟨e, h⟩ := cast?_some h
  subst e; subst h
  exact hv
end Go.Ev
