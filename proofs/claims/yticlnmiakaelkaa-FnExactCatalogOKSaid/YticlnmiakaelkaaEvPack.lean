/- What lives on at a join or a loop's head. -/
import Derived.Test.YticlnmiakaelkaaEvOps
set_option linter.unusedSimpArgs false
set_option linter.unusedVariables false
namespace Go.Ev
open Go.RowKit (Below)

/-- A variable's cells, of which some are rows of the frame's own; bl: their blocks. -/
def OwnCells (w : World) (G : Nat → Prop) (own : List (Nat × Nat)) : (t : Ty) → Nat → t.den → List Value → List Nat → Prop
  | .sl t, n, xs, cs, bl => match ownT own n with
    | some T => ∃ v, cs = [v] ∧ RowAt w G T t xs v ∧ bl = v.ownBlock.toList
    | none => Val w G (.sl t) xs cs ∧ bl = []
  | .pair a b, n, x, cs, bl => ∃ c1 c2 b1 b2, cs = c1 ++ c2 ∧ bl = b1 ++ b2 ∧ OwnCells w G own a n x.1 c1 b1 ∧ OwnCells w G own b (n + a.size) x.2 c2 b2
  | .int k, _, x, cs, bl => Val w G (.int k) x cs ∧ bl = []
  | .bool, _, x, cs, bl => Val w G .bool x cs ∧ bl = []
  | .str, _, x, cs, bl => Val w G .str x cs ∧ bl = []
  | .unit, _, x, cs, bl => Val w G .unit x cs ∧ bl = []

def PtrH (w : World) (G H : Nat → Prop) (t : Ty) (x : t.den) (v : Value) : Prop := ∃ b o cs, v = .pointer (some ⟨b, o, none⟩) ∧ H b ∧ CellsAt w b o cs ∧ Val w G t x cs
def CapsH (w : World) (G H : Nat → Prop) : (ts : List Ty) → dens ts → List Value → Prop
  | [], _, l => l = []
  | t :: r, x, v :: l => PtrH w G H t x.1 v ∧ CapsH w G H r x.2 l
  | _ :: _, _, [] => False

def PkItem (w : World) (G H : Nat → Prop) (tm : Array Value) : (a : Item) → a.den → List Nat → Prop
  | .val s t, x, bl => ∃ v, tm[s]? = some v ∧ Res1 w G t x v ∧ bl = []
  | .var s t own, x, bl => ∃ b cs T bl', tm[s]? = some (.pointer (some ⟨b, 0, none⟩)) ∧ w.heap[b]? = some (.cells (List.toArray cs) T (0, 0)) ∧ OwnCells w G own t 0 x cs bl' ∧ bl = bl' ++ [b]
  | .row s T t, xs, bl => ∃ v, tm[s]? = some v ∧ RowAt w G T t xs v ∧ bl = v.ownBlock.toList
  | .el s t, x, bl => ∃ v, tm[s]? = some v ∧ PtrH w G H t x v ∧ bl = []
  | .clo s f ts, x, bl => ∃ cv : List Value, tm[s]? = some (.func (.func f) #[] cv.toArray) ∧ CapsH w G H ts x cv ∧ bl = []
def PkAll (w : World) (G H : Nat → Prop) (tm : Array Value) : (l : List Item) → Items.den l → List Nat → Prop
  | [], _, bl => bl = []
  | [a], x, bl => PkItem w G H tm a x bl
  | a :: b :: r, x, bl => ∃ b1 b2, bl = b1 ++ b2 ∧ PkItem w G H tm a x.1 b1 ∧ PkAll w G H tm (b :: r) x.2 b2

structure Packed (w0 : World) (G0 : Nat → Prop) (N : Nat) (w : World) (l : List Item) (y : Items.den l) (tm : Array Value) : Prop where
  size : tm.size = N
  base : Below w0.heap.size w0 w
  ex : ∃ (G H : Nat → Prop) (bl : List Nat), PkAll w G H tm l y bl ∧ bl.Nodup ∧ (∀ b ∈ bl, ¬ G b ∧ ¬ H b ∧ b < w.heap.size ∧ w0.heap.size ≤ b) ∧
    (∀ b, G b → b < w.heap.size) ∧ (∀ b, H b → b < w.heap.size) ∧ (∀ b, G b → G0 b ∨ w0.heap.size ≤ b) ∧ ∀ b, G b → H b

section
variable {P : Program} {w0 : World} {G0 : Nat → Prop} {N : Nat} {m m1 : St} {e : Env} {tm : Array Value}

/-- Unpacking goes on: 'rest' are the blocks that still wait for their names. -/
structure Cur (w0 : World) (G0 : Nat → Prop) (N : Nat) (m : St) (e : Env) (tm : Array Value) (rest : List Nat) : Prop where
  rel : Rel w0 G0 N [] m e tm
  fresh : Fresh m e
  dis : ∀ i b, blk e.objs m i = some b → b ∉ rest
  nd : rest.Nodup
  bl : ∀ b ∈ rest, ¬ m.G b ∧ ¬ m.H b ∧ b < m.w.heap.size ∧ w0.heap.size ≤ b
/-- The same memory, more names. -/
structure Grow (m m' : St) : Prop where
  le : m.le m'
  w : m'.w = m.w
  G : m'.G = m.G
  H : m'.H = m.H
theorem Grow.refl (m : St) : Grow m m := ⟨.refl m, rfl, rfl, rfl⟩
theorem Grow.trans {a b c : St} (h : Grow a b) (k : Grow b c) : Grow a c := ⟨h.le.trans k.le, k.w.trans h.w, k.G.trans h.G, k.H.trans h.H⟩

/-- An object in a block that is there. -/
theorem Cur.hold {bl rest : List Nat} (h : Cur w0 G0 N m e tm (bl ++ rest)) (o : Obj) (b' : Nat) (v : Value)
    (hb : ∀ m' : St, m'.β e.next = b' → m'.ν e.next = v → ∀ b, blk ((e.next, o) :: e.objs) m' e.next = some b → b ∈ bl)
    (ho : ∀ m' : St, Grow m m' → m'.β e.next = b' → m'.ν e.next = v → m'.D e.next → Ob m' e.next o) :
    ∃ m', Grow m m' ∧ m'.β e.next = b' ∧ m'.ν e.next = v ∧ m'.D e.next ∧ Cur w0 G0 N m' (e.new o) tm rest := by
  have hf := h.fresh
  let m' : St := { m with β := fun i => if i = e.next then b' else m.β i, ν := fun i => if i = e.next then v else m.ν i, D := fun i => m.D i ∨ i = e.next }
  have hle : m.le m' := ⟨fun b hb => ⟨hb, rfl⟩, fun b hb => ⟨hb, rfl⟩, fun _ h => .inl h, fun i hi => if_neg (fun (q : i = e.next) => hf.free (q ▸ hi)), fun i hi => if_neg (fun (q : i = e.next) => hf.free (q ▸ hi))⟩
  have hgr : Grow m m' := ⟨hle, rfl, rfl, rfl⟩
  have h1 : m'.β e.next = b' := if_pos rfl
  have h2 : m'.ν e.next = v := if_pos rfl
  have hok0 : ObjsOk w0 G0 m e.objs := by have := h.rel.ok; rwa [List.append_nil] at this
  have hok : ObjsOk w0 G0 m' ((e.next, o) :: e.objs) := hok0.new hf.free hle (.inr rfl) o hok0.base (fun _ _ _ => rfl) (fun b hb => ⟨.inl hb, hok0.liveG b hb⟩) (fun b hb => ⟨.inl hb, hok0.liveH b hb⟩) (Nat.le_refl _) hok0.gh (ho m' hgr h1 h2 (.inr rfl)) fun b hbk => by
    have hm := hb m' h1 h2 b hbk
    obtain ⟨o1, o2, o3, o4⟩ := h.bl b (List.mem_append_left _ hm)
    exact ⟨o1, o2, o3, o4, fun i hi => h.dis i b hi (List.mem_append_left _ hm)⟩
  refine ⟨m', hgr, h1, h2, .inr rfl, h.rel.push hf.free hle o (by rw [List.append_nil]; exact hok), fun i hi => ?_, fun i b hbk => ?_, (List.nodup_append.1 h.nd).2.1, fun b hb => h.bl b (List.mem_append_right _ hb)⟩
  · rcases hi with hi | hi
    · have := hf i hi
      show i < e.next + 1
      omega
    · show i < e.next + 1
      omega
  · by_cases hi : i = e.next
    · subst hi
      have hm := hb m' h1 h2 b hbk
      intro hr
      exact (List.nodup_append.1 h.nd).2.2 b hm b hr rfl
    · have hbk' : blk e.objs m i = some b := by
        rw [← blk_le hle (fun i o hf => (hok0.objs i o hf).1)]
        have hbk : blk ((e.next, o) :: e.objs) m' i = some b := hbk
        unfold blk at hbk ⊢
        rw [find_cons, if_neg fun q => hi q.symm] at hbk
        exact hbk
      exact fun hr => h.dis i b hbk' (List.mem_append_right _ hr)
theorem Cur.slot {rest : List Nat} (h : Cur w0 G0 N m e tm rest) {s : Nat} {sv : SV} {v : Value} (hs : tm[s]? = some v) (hv : Sv m sv v) : Cur w0 G0 N m (e.set s sv) tm rest :=
  ⟨h.rel.reset hs hv, h.fresh, h.dis, h.nd, h.bl⟩
theorem rowAt_slice {w : World} {G : Nat → Prop} {T : Nat} {t : Ty} {xs : List t.den} {v : Value} (h : RowAt w G T t xs v) : ∃ A n c, v = .slice A n c := by
  rcases h with ⟨e, _⟩ | ⟨b, c, cs, e, _⟩
  · exact ⟨_, _, _, e⟩
  · exact ⟨_, _, _, e⟩
theorem Cur.row {T : Nat} {t : Ty} {xs : List t.den} {v : Value} {rest : List Nat} (h : Cur w0 G0 N m e tm (v.ownBlock.toList ++ rest)) (hr : RowAt m.w m.G T t xs v) :
    ∃ m', Grow m m' ∧ Cur w0 G0 N m' (e.new (.row T t xs)) tm rest ∧ Lv m' (.row e.next) v := by
  obtain ⟨m', hg, _, h2, h3, hc⟩ := h.hold (.row T t xs) 0 v (fun m' _ h2 b hb => by
    unfold blk at hb
    rw [find_cons, if_pos rfl] at hb
    simp only [h2] at hb
    simp [hb]) (fun m' hg _ h2 _ => by
      show RowAt m'.w m'.G T t xs (m'.ν e.next)
      rw [h2, hg.w, hg.G]
      exact hr)
  exact ⟨m', hg, hc, h3, h2.symm, rowAt_slice hr⟩

theorem unpackVar_sound {own : List (Nat × Nat)} : ∀ (t : Ty) (n : Nat) (x : t.den) (m : St) (e : Env) (cs : List Value) (bl rest : List Nat), OwnCells m.w m.G own t n x cs bl → Cur w0 G0 N m e tm (bl ++ rest) →
    ∃ m', Grow m m' ∧ Cur w0 G0 N m' (unpackVar own e t x n).1 tm rest ∧ R2 (Lv m') (unpackVar own e t x n).2 cs
  | .int k, n, x, m, e, cs, bl, rest, ⟨h1, h2⟩, hc => by subst h2; exact ⟨m, .refl m, hc, Val.enc (t := .int k) h1⟩
  | .bool, n, x, m, e, cs, bl, rest, ⟨h1, h2⟩, hc => by subst h2; exact ⟨m, .refl m, hc, Val.enc (t := .bool) h1⟩
  | .str, n, x, m, e, cs, bl, rest, ⟨h1, h2⟩, hc => by subst h2; exact ⟨m, .refl m, hc, Val.enc (t := .str) h1⟩
  | .unit, n, x, m, e, cs, bl, rest, ⟨h1, h2⟩, hc => by subst h2; exact ⟨m, .refl m, hc, Val.enc (t := .unit) h1⟩
  | .pair a b, n, x, m, e, cs, bl, rest, ⟨c1, c2, b1, b2, e1, e2, h1, h2⟩, hc => by
    subst e1; subst e2
    rw [List.append_assoc] at hc
    obtain ⟨m1, g1, hc1, r1⟩ := unpackVar_sound a n x.1 m e c1 b1 (b2 ++ rest) h1 hc
    have h2' : OwnCells m1.w m1.G own b (n + a.size) x.2 c2 b2 := by rw [g1.w, g1.G]; exact h2
    obtain ⟨m2, g2, hc2, r2⟩ := unpackVar_sound b (n + a.size) x.2 m1 _ c2 b2 rest h2' hc1
    exact ⟨m2, g1.trans g2, hc2, (r1.imp fun _ _ hx => Lv.le g2.le hx).append r2⟩
  | .sl t, n, xs, m, e, cs, bl, rest, h, hc => by
    unfold OwnCells at h
    unfold unpackVar
    cases ho : ownT own n with
    | none =>
      rw [ho] at h
      obtain ⟨h1, h2⟩ := h
      subst h2
      exact ⟨m, .refl m, hc, Val.enc (t := .sl t) h1⟩
    | some T =>
      rw [ho] at h
      obtain ⟨v, e1, h1, h2⟩ := h
      subst e1; subst h2
      obtain ⟨m', g, hc', hl⟩ := hc.row h1
      exact ⟨m', g, hc', hl, trivial⟩

theorem capsH_cp {m : St} : ∀ (ts : List Ty) (x : dens ts) (l : List Value), CapsH m.w m.G m.H ts x l → R2 (Cp m) (startCaps ts x) l
  | [], _, l, h => by simp only [CapsH] at h; subst h; trivial
  | t :: r, x, [], h => by simp [CapsH] at h
  | t :: r, x, v :: l, ⟨h1, h2⟩ => ⟨h1, capsH_cp r x.2 l h2⟩

theorem unpackItem_sound {a : Item} {x : a.den} {bl rest : List Nat} (h : PkItem m.w m.G m.H tm a x bl) (hc : Cur w0 G0 N m e tm (bl ++ rest)) :
    ∃ m', Grow m m' ∧ Cur w0 G0 N m' (unpackItem e a x) tm rest := by
  cases a with
  | val s t =>
    obtain ⟨v, hs, ⟨cs, hv, ha⟩, e1⟩ := h
    subst e1
    exact ⟨m, .refl m, hc.slot hs (sv_ofTy hv ha)⟩
  | el s t =>
    obtain ⟨v, hs, ⟨b, o, cs, e2, hH, hcl, hv⟩, e1⟩ := h
    subst e1
    exact ⟨m, .refl m, hc.slot hs (sv := .one (.el t x 0)) ⟨b, o, cs, e2, hH, hcl, hv⟩⟩
  | clo s f ts =>
    obtain ⟨cv, hs, hcv, e1⟩ := h
    subst e1
    exact ⟨m, .refl m, hc.slot hs (sv := .one (.clo f (startCaps ts x))) ⟨cv, rfl, capsH_cp ts x cv hcv⟩⟩
  | row s T t =>
    obtain ⟨v, hs, hr, e1⟩ := h
    subst e1
    obtain ⟨m', g, hc', hl⟩ := hc.row hr
    exact ⟨m', g, hc'.slot hs (sv := .one (.row e.next)) hl⟩
  | var s t own =>
    obtain ⟨b, cs, T, bl', hs, hh, ho, e1⟩ := h
    subst e1
    rw [List.append_assoc] at hc
    obtain ⟨m1, g1, hc1, r1⟩ := unpackVar_sound t 0 x m e cs bl' ([b] ++ rest) ho hc
    obtain ⟨m2, g2, h1, _, h3, hc2⟩ := hc1.hold (.var (unpackVar own e t x 0).2) b (.bool true) (fun m' h1 _ b' hb => by
      unfold blk at hb
      rw [find_cons, if_pos rfl] at hb
      simp only [h1, Option.some.injEq] at hb
      simp [hb]) (fun m' hg h1 _ _ => ⟨cs, T, by rw [h1, hg.w, g1.w]; exact hh, r1.imp fun _ _ hx => Lv.le hg.le hx⟩)
    exact ⟨m2, g1.trans g2, hc2.slot hs (sv := .one (.loc _ 0)) ⟨h3, by rw [h1]⟩⟩
theorem PkItem.grow {m' : St} (g : Grow m m') {a : Item} {x : a.den} {bl : List Nat} (h : PkItem m.w m.G m.H tm a x bl) : PkItem m'.w m'.G m'.H tm a x bl := by rw [g.w, g.G, g.H]; exact h
theorem PkAll.grow {m' : St} (g : Grow m m') {l : List Item} {x : Items.den l} {bl : List Nat} (h : PkAll m.w m.G m.H tm l x bl) : PkAll m'.w m'.G m'.H tm l x bl := by rw [g.w, g.G, g.H]; exact h
theorem unpackAll_sound : ∀ (l : List Item) (x : Items.den l) (m : St) (e : Env) (bl rest : List Nat), PkAll m.w m.G m.H tm l x bl → Cur w0 G0 N m e tm (bl ++ rest) →
    ∃ m', Grow m m' ∧ Cur w0 G0 N m' (unpackAll e l x) tm rest
  | [], x, m, e, bl, rest, h, hc => by
    simp only [PkAll] at h
    subst h
    exact ⟨m, .refl m, hc⟩
  | [a], x, m, e, bl, rest, h, hc => unpackItem_sound h hc
  | a :: b :: r, x, m, e, bl, rest, ⟨b1, b2, e1, h1, h2⟩, hc => by
    subst e1
    rw [List.append_assoc] at hc
    obtain ⟨m1, g1, hc1⟩ := unpackItem_sound h1 hc
    obtain ⟨m2, g2, hc2⟩ := unpackAll_sound (b :: r) x.2 m1 _ b2 rest (h2.grow g1) hc1
    exact ⟨m2, g1.trans g2, hc2⟩

theorem unpack_sound {w : World} {l : List Item} {y : Items.den l} (h : Packed w0 G0 N w l y tm) : ∃ m, m.w = w ∧ Rel w0 G0 N [] m (unpack l y) tm ∧ Fresh m (unpack l y) := by
  obtain ⟨G, H, bl, h1, h2, h3, h4, h5, h6, h7⟩ := h.ex
  let m : St := ⟨w, G, H, fun _ => 0, fun _ => .bool true, fun _ => False⟩
  have hok : ObjsOk w0 G0 m [] := ⟨h.base, fun i o hf => by simp [find] at hf, fun i j b hb => by simp [blk, find] at hb, fun i b hb => by simp [blk, find] at hb, h4, h5, h6, h7⟩
  have hc : Cur w0 G0 N m ⟨[], [], 0⟩ tm (bl ++ []) := by
    rw [List.append_nil]
    exact ⟨⟨hok, fun i o hf => by simp [find] at hf, h.size, fun t sv hf => by simp [find] at hf⟩, fun i hi => hi.elim, fun i b hb => by simp [blk, find] at hb, h2, h3⟩
  obtain ⟨m', g, hc'⟩ := unpackAll_sound l y m _ bl [] h1 hc
  exact ⟨m', g.w, hc'.rel, hc'.fresh⟩
end
end Go.Ev
