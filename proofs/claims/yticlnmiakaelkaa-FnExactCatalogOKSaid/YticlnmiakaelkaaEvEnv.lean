/- An environment's steps and the world's. -/
import Derived.Test.YticlnmiakaelkaaEvDec
set_option linter.unusedSimpArgs false
set_option linter.unusedVariables false
namespace Go.Ev
open Go.RowKit (Below)

variable {w0 : World} {G0 : Nat → Prop} {N : Nat} {F : List (Nat × Obj)} {m m' : St} {os : List (Nat × Obj)} {e : Env} {tm : Array Value}

theorem blk_le (hle : m.le m') (ho : ∀ i o, find os i = some o → m.D i) (i : Nat) : blk os m' i = blk os m i := by
  unfold blk
  cases hf : find os i with
  | none => rfl
  | some o =>
    have hi := ho i o hf
    cases o with
    | var vs => simp [hle.β i hi]
    | row T t xs => simp [hle.ν i hi]
    | frow t xs => rfl

/-- The world has gone on; no object was touched. -/
theorem ObjsOk.world (h : ObjsOk w0 G0 m os) (hle : m.le m') (hbase : Below w0.heap.size w0 m'.w)
    (hb : ∀ i b, blk os m i = some b → m'.w.heap[b]? = m.w.heap[b]?)
    (hG : ∀ b, m'.G b → (m.G b ∨ m.w.heap.size ≤ b) ∧ b < m'.w.heap.size) (hH : ∀ b, m'.H b → (m.H b ∨ m.w.heap.size ≤ b) ∧ b < m'.w.heap.size)
    (hsz : m.w.heap.size ≤ m'.w.heap.size) (hgh : ∀ b, m'.G b → m'.H b) : ObjsOk w0 G0 m' os := by
  have hlt : ∀ i o, find os i = some o → m.D i := fun i o hf => (h.objs i o hf).1
  have hbl := blk_le hle hlt
  refine ⟨hbase, fun i o hf => ⟨hle.D _ (hlt i o hf), Ob.le hle (hlt i o hf) (h.objs i o hf).2 os hf (hb i)⟩, fun i j b h1 h2 => ?_, fun i b h1 => ?_, fun b hg => (hG b hg).2, fun b hg => (hH b hg).2, fun b hg => ?_, hgh⟩
  · rw [hbl] at h1 h2
    exact h.inj i j b h1 h2
  · rw [hbl] at h1
    obtain ⟨o1, o2, o3, o4⟩ := h.out i b h1
    refine ⟨fun hg => ?_, fun hg => ?_, by omega, o4⟩
    · rcases (hG b hg).1 with hg | hg
      · exact o1 hg
      · omega
    · rcases (hH b hg).1 with hg | hg
      · exact o2 hg
      · omega
  · rcases (hG b hg).1 with hg | hg
    · exact h.subG b hg
    · have := h.base.size
      exact .inr (by omega)

/-- A new object. -/
theorem ObjsOk.new (h : ObjsOk w0 G0 m os) {n : Nat} (hfr : ¬ m.D n) (hle : m.le m') (hD : m'.D n) (o : Obj) (hbase : Below w0.heap.size w0 m'.w)
    (hb : ∀ i b, blk os m i = some b → m'.w.heap[b]? = m.w.heap[b]?)
    (hG : ∀ b, m'.G b → (m.G b ∨ m.w.heap.size ≤ b) ∧ b < m'.w.heap.size) (hH : ∀ b, m'.H b → (m.H b ∨ m.w.heap.size ≤ b) ∧ b < m'.w.heap.size)
    (hsz : m.w.heap.size ≤ m'.w.heap.size) (hgh : ∀ b, m'.G b → m'.H b) (ho : Ob m' n o)
    (hn : ∀ b, blk ((n, o) :: os) m' n = some b → ¬ m'.G b ∧ ¬ m'.H b ∧ b < m'.w.heap.size ∧ w0.heap.size ≤ b ∧ ∀ i, blk os m i ≠ some b) : ObjsOk w0 G0 m' ((n, o) :: os) := by
  have h' := h.world hle hbase hb hG hH hsz hgh
  have hlt : ∀ i o, find os i = some o → m.D i := fun i o hf => (h.objs i o hf).1
  have hbl := blk_le hle hlt
  have hold : ∀ i, i ≠ n → blk ((n, o) :: os) m' i = blk os m' i := fun i hi => by
    unfold blk
    rw [find_cons, if_neg (fun e => hi e.symm)]
  refine ⟨hbase, fun i p hf => ?_, fun i j b h1 h2 => ?_, fun i b h1 => ?_, h'.liveG, h'.liveH, h'.subG, hgh⟩
  · rw [find_cons] at hf
    by_cases hi : n = i
    · rw [if_pos hi] at hf
      obtain rfl := Option.some.inj hf
      subst hi
      exact ⟨hD, ho⟩
    · rw [if_neg hi] at hf
      exact h'.objs i p hf
  · by_cases hi : i = n <;> by_cases hj : j = n
    · rw [hi, hj]
    · subst hi
      rw [hold j hj, hbl] at h2
      exact absurd h2 ((hn b h1).2.2.2.2 j)
    · subst hj
      rw [hold i hi, hbl] at h1
      exact absurd h1 ((hn b h2).2.2.2.2 i)
    · rw [hold i hi] at h1
      rw [hold j hj] at h2
      exact h'.inj i j b h1 h2
  · by_cases hi : i = n
    · subst hi
      obtain ⟨a1, a2, a3, a4, _⟩ := hn b h1
      exact ⟨a1, a2, a3, a4⟩
    · rw [hold i hi] at h1
      exact h'.out i b h1

/-- An object holds something else, in the block that it had. -/
theorem ObjsOk.put (h : ObjsOk w0 G0 m os) (hle : m.le m') (i : Nat) (o o' : Obj) (hi : find os i = some o) (hbase : Below w0.heap.size w0 m'.w)
    (hb : ∀ j b, j ≠ i → blk os m j = some b → m'.w.heap[b]? = m.w.heap[b]?)
    (hG : ∀ b, m'.G b → m.G b) (hH : ∀ b, m'.H b → m.H b)
    (hsz : m.w.heap.size = m'.w.heap.size) (hgh : ∀ b, m'.G b → m'.H b) (ho : Ob m' i o')
    (hn : ∀ b, blk (upd os i o') m' i = some b → blk os m i = some b) : ObjsOk w0 G0 m' (upd os i o') := by
  have hlt : ∀ i o, find os i = some o → m.D i := fun i o hf => (h.objs i o hf).1
  have hbl := blk_le hle hlt
  have hold : ∀ j, j ≠ i → blk (upd os i o') m' j = blk os m j := fun j hj => by
    rw [← hbl]
    unfold blk
    rw [find_upd, if_neg (fun e => hj e.symm)]
  have hall : ∀ j b, blk (upd os i o') m' j = some b → blk os m j = some b := fun j b hh => by
    by_cases hj : j = i
    · subst hj; exact hn b hh
    · rw [hold j hj] at hh; exact hh
  refine ⟨hbase, fun j p hf => ?_, fun j k b h1 h2 => h.inj j k b (hall j b h1) (hall k b h2), fun j b h1 => ?_, fun b hg => ?_, fun b hg => ?_, fun b hg => h.subG b (hG b hg), hgh⟩
  · rw [find_upd] at hf
    by_cases hj : i = j
    · rw [if_pos hj, hi] at hf
      obtain rfl := Option.some.inj hf
      subst hj
      exact ⟨hle.D _ (hlt i o hi), ho⟩
    · rw [if_neg hj] at hf
      exact ⟨hle.D _ (hlt j p hf), Ob.le hle (hlt j p hf) (h.objs j p hf).2 os hf fun b hh => hb j b (fun e => hj e.symm) hh⟩
  · obtain ⟨a1, a2, a3, a4⟩ := h.out j b (hall j b h1)
    exact ⟨fun hg => a1 (hG b hg), fun hg => a2 (hH b hg), by omega, a4⟩
  · have := h.liveG b (hG b hg); omega
  · have := h.liveH b (hH b hg); omega

theorem ObjsOk.erase (h : ObjsOk w0 G0 m os) (i : Nat) : ObjsOk w0 G0 m (erase os i) := by
  have hb : ∀ j b, blk (Ev.erase os i) m j = some b → blk os m j = some b ∧ j ≠ i := fun j b hh => by
    unfold blk at hh ⊢
    rw [find_erase (α := Nat)] at hh
    by_cases hj : i = j
    · rw [if_pos hj] at hh; simp at hh
    · rw [if_neg hj] at hh; exact ⟨hh, fun e => hj e.symm⟩
  refine ⟨h.base, fun j p hf => ?_, fun j k b h1 h2 => h.inj j k b (hb j b h1).1 (hb k b h2).1, fun j b h1 => h.out j b (hb j b h1).1, h.liveG, h.liveH, h.subG, h.gh⟩
  rw [find_erase (α := Nat)] at hf
  by_cases hj : i = j
  · rw [if_pos hj] at hf; simp at hf
  · rw [if_neg hj] at hf; exact h.objs j p hf

theorem ObjsOk.eraseAll : ∀ (l : List Nat) {os : List (Nat × Obj)}, ObjsOk w0 G0 m os → ObjsOk w0 G0 m (eraseAll l os)
  | [], _, h => h
  | i :: r, _, h => ObjsOk.eraseAll r (h.erase i)

/-! ### frames -/
theorem Rel.set (h : Rel w0 G0 N F m e tm) {d : Nat} {sv : SV} {v : Value} (hd : d < N) (hv : Sv m sv v) : Rel w0 G0 N F m (e.set d sv) (tm.setIfInBounds d v) := by
  refine ⟨h.ok, h.disj, by simp [h.tms], fun t s hf => ?_⟩
  simp only [Env.set] at hf
  rw [find_cons] at hf
  by_cases ht : d = t
  · rw [if_pos ht] at hf
    obtain rfl := Option.some.inj hf
    subst ht
    exact ⟨v, by rw [Array.getElem?_setIfInBounds_self_of_lt (by rw [h.tms]; exact hd)], hv⟩
  · rw [if_neg ht] at hf
    obtain ⟨u, hu, hs⟩ := h.slots t s hf
    exact ⟨u, by rw [Array.getElem?_setIfInBounds_ne ht]; exact hu, hs⟩
/-- What is known of a slot is told otherwise. -/
theorem Rel.reset (h : Rel w0 G0 N F m e tm) {d : Nat} {sv : SV} {v : Value} (hd : tm[d]? = some v) (hv : Sv m sv v) : Rel w0 G0 N F m (e.set d sv) tm := by
  refine ⟨h.ok, h.disj, h.tms, fun t s hf => ?_⟩
  simp only [Env.set] at hf
  rw [find_cons] at hf
  by_cases ht : d = t
  · rw [if_pos ht] at hf
    obtain rfl := Option.some.inj hf
    subst ht
    exact ⟨v, hd, hv⟩
  · rw [if_neg ht] at hf
    exact h.slots t s hf
theorem Rel.world (h : Rel w0 G0 N F m e tm) (hle : m.le m') (ho : ObjsOk w0 G0 m' (e.objs ++ F)) : Rel w0 G0 N F m' e tm :=
  ⟨ho, h.disj, h.tms, fun t s hf => by
    obtain ⟨v, hv, hs⟩ := h.slots t s hf
    exact ⟨v, hv, hs.le hle⟩⟩
theorem ObjsOk.congr {os' : List (Nat × Obj)} (h : ObjsOk w0 G0 m os) (hf : ∀ i, find os' i = find os i) : ObjsOk w0 G0 m os' := by
  have hb : ∀ i, blk os' m i = blk os m i := fun i => by unfold blk; rw [hf]
  refine ⟨h.base, fun i o ho => h.objs i o (by rw [← hf]; exact ho), fun i j b h1 h2 => h.inj i j b (by rw [← hb]; exact h1) (by rw [← hb]; exact h2), fun i b h1 => h.out i b (by rw [← hb]; exact h1), h.liveG, h.liveH, h.subG, h.gh⟩
theorem Rel.obj (h : Rel w0 G0 N F m e tm) (i : Nat) (o : Obj) (hf : find e.objs i = some o) : m.D i ∧ Ob m i o := h.ok.objs i o (find_left hf)
theorem blk_left {l l' : List (Nat × Obj)} {i b : Nat} (h : blk l m i = some b) : blk (l ++ l') m i = some b := by
  unfold blk at h ⊢
  rw [find_append]
  cases hf : find l i with
  | none => rw [hf] at h; simp at h
  | some o => rw [hf] at h; exact h
theorem upd_left {l l' : List (Nat × Obj)} {id : Nat} {o : Obj} (x : Obj) (h : find l id = some o) (i : Nat) : find (upd l id x ++ l') i = find (upd (l ++ l') id x) i := by
  rw [find_append, find_upd, find_upd]
  by_cases hi : id = i
  · subst hi
    rw [if_pos rfl, if_pos rfl, find_append, h]
    rfl
  · rw [if_neg hi, if_neg hi, find_append]
theorem erase_left {l l' : List (Nat × Obj)} {id : Nat} (h : find l' id = none) (i : Nat) : find (erase l id ++ l') i = find (erase (l ++ l') id) i := by
  rw [find_append, find_erase (α := Nat), find_erase (α := Nat)]
  by_cases hi : id = i
  · subst hi
    rw [if_pos rfl, if_pos rfl]
    exact h
  · rw [if_neg hi, if_neg hi, find_append]
theorem Rel.objs (h : Rel w0 G0 N F m e tm) (hle : m.le m') (os' : List (Nat × Obj)) (n : Nat) (ho : ObjsOk w0 G0 m' (os' ++ F)) (hd : ∀ i o, find os' i = some o → find F i = none) : Rel w0 G0 N F m' ⟨e.slots, os', n⟩ tm :=
  ⟨ho, hd, h.tms, fun t s hf => by
    obtain ⟨v, hv, hs⟩ := h.slots t s hf
    exact ⟨v, hv, hs.le hle⟩⟩

/-! ### the world's own steps -/
/-- A block more, known to nobody. -/
theorem le_alloc (m : St) (h1 : ∀ b, m.G b → b < m.w.heap.size) (h2 : ∀ b, m.H b → b < m.w.heap.size) (o : Go.Obj) : m.le { m with w := m.w.alloc o } :=
  ⟨fun b hb => ⟨hb, Below.heap_alloc _ _ _ (h1 b hb)⟩, fun b hb => ⟨hb, Below.heap_alloc _ _ _ (h2 b hb)⟩, fun _ h => h, fun _ _ => rfl, fun _ _ => rfl⟩
theorem le_drew (m : St) : m.le { m with w := m.w.drew } := ⟨fun _ hb => ⟨hb, rfl⟩, fun _ hb => ⟨hb, rfl⟩, fun _ h => h, fun _ _ => rfl, fun _ _ => rfl⟩

/-- A new variable. -/
theorem ObjsOk.newVar (h : ObjsOk w0 G0 m os) (vs : List V) (cs : List Value) (T : Nat) (hr : R2 (Lv m) vs cs) {n : Nat} (hfr : ¬ m.D n) :
    ∃ m', m.le m' ∧ m'.w = m.w.alloc (.cells cs.toArray T) ∧ (∀ i, m'.D i ↔ m.D i ∨ i = n) ∧ m'.β n = m.w.heap.size ∧ ObjsOk w0 G0 m' ((n, .var vs) :: os) := by
  let m' : St := { m with w := m.w.alloc (.cells cs.toArray T), β := fun i => if i = n then m.w.heap.size else m.β i, D := fun i => m.D i ∨ i = n }
  have hle : m.le m' := ⟨fun b hb => ⟨hb, Below.heap_alloc _ _ _ (h.liveG b hb)⟩, fun b hb => ⟨hb, Below.heap_alloc _ _ _ (h.liveH b hb)⟩, fun _ h => .inl h,
    fun i hi => if_neg (fun (e : i = n) => hfr (e ▸ hi)), fun _ _ => rfl⟩
  have hβ : m'.β n = m.w.heap.size := if_pos rfl
  refine ⟨m', hle, rfl, fun _ => Iff.rfl, hβ, h.new hfr hle (.inr rfl) _ (h.base.alloc h.base.size _) (fun i b hb => Below.heap_alloc _ _ _ (h.out i b hb).2.2.1) (fun b hb => ⟨.inl hb, ?_⟩) (fun b hb => ⟨.inl hb, ?_⟩) (by simp [m']) h.gh ?_ ?_⟩
  · have := h.liveG b hb; simp [m']; omega
  · have := h.liveH b hb; simp [m']; omega
  · exact ⟨cs, T, by rw [hβ]; exact heap_alloc_new m.w _, hr.imp fun _ _ hx => Lv.le hle hx⟩
  · intro b hb
    have e : blk ((n, Obj.var vs) :: os) m' n = some m.w.heap.size := by unfold blk; rw [find_cons, if_pos rfl]; simp [hβ]
    rw [e] at hb
    obtain rfl := Option.some.inj hb
    refine ⟨fun hg => ?_, fun hg => ?_, by simp [m'], h.base.size, fun i hi => ?_⟩
    · have := h.liveG _ hg; omega
    · have := h.liveH _ hg; omega
    · have := (h.out i _ hi).2.2.1; omega

/-- A new row: nil, or in a block that nobody else knows. -/
theorem ObjsOk.newRow (h : ObjsOk w0 G0 m os) (w' : World) (T : Nat) (t : Ty) (xs : List t.den) (v : Value) (hbase : Below w0.heap.size w0 w')
    (hGs : ∀ b, m.G b → w'.heap[b]? = m.w.heap[b]?) (hHs : ∀ b, m.H b → w'.heap[b]? = m.w.heap[b]?) (hsz : m.w.heap.size ≤ w'.heap.size)
    (hb : ∀ i b, blk os m i = some b → w'.heap[b]? = m.w.heap[b]?) (hrow : RowAt w' m.G T t xs v)
    {n : Nat} (hfr : ¬ m.D n) (hn : ∀ a n c, v = .slice (some a) n c → w0.heap.size ≤ a.block ∧ a.block < w'.heap.size ∧ ¬ m.G a.block ∧ ¬ m.H a.block ∧ ∀ i, blk os m i ≠ some a.block) :
    ∃ m', m.le m' ∧ m'.w = w' ∧ (∀ i, m'.D i ↔ m.D i ∨ i = n) ∧ m'.ν n = v ∧ ObjsOk w0 G0 m' ((n, .row T t xs) :: os) := by
  let m' : St := { m with w := w', ν := fun i => if i = n then v else m.ν i, D := fun i => m.D i ∨ i = n }
  have hle : m.le m' := ⟨fun b hb => ⟨hb, hGs b hb⟩, fun b hb => ⟨hb, hHs b hb⟩, fun _ h => .inl h, fun _ _ => rfl, fun i hi => if_neg (fun (e : i = n) => hfr (e ▸ hi))⟩
  have hν : m'.ν n = v := if_pos rfl
  refine ⟨m', hle, rfl, fun _ => Iff.rfl, hν, h.new hfr hle (.inr rfl) _ hbase hb (fun b hb => ⟨.inl hb, ?_⟩) (fun b hb => ⟨.inl hb, ?_⟩) hsz h.gh ?_ ?_⟩
  · have := h.liveG b hb; exact Nat.lt_of_lt_of_le this hsz
  · have := h.liveH b hb; exact Nat.lt_of_lt_of_le this hsz
  · show RowAt w' m.G T t xs (m'.ν n)
    rw [hν]; exact hrow
  · intro b hb
    have e : blk ((n, Obj.row T t xs) :: os) m' n = v.ownBlock := by unfold blk; rw [find_cons, if_pos rfl]; simp only [hν]
    rw [e] at hb
    obtain ⟨a, n, c, hv, rfl⟩ := ownBlock_some hb
    obtain ⟨h1, h2, h3, h4, h5⟩ := hn a n c hv
    exact ⟨h3, h4, h2, h1, h5⟩

/-- Rows are written no more. -/
theorem ObjsOk.freezeRow (h : ObjsOk w0 G0 m os) (i : Nat) : ∃ m', m.le m' ∧ m'.w = m.w ∧ m'.D = m.D ∧ m'.β = m.β ∧ m'.ν = m.ν ∧ ObjsOk w0 G0 m' (freezeRow os i) := by
  unfold Ev.freezeRow
  cases hf : find os i with
  | none => exact ⟨m, .refl m, rfl, rfl, rfl, rfl, h⟩
  | some o =>
    cases o with
    | var vs => exact ⟨m, .refl m, rfl, rfl, rfl, rfl, h⟩
    | frow t xs => exact ⟨m, .refl m, rfl, rfl, rfl, rfl, h⟩
    | row T t xs =>
      let m' : St := { m with G := fun b => m.G b ∨ blk os m i = some b, H := fun b => m.H b ∨ blk os m i = some b }
      have hle : m.le m' := ⟨fun b hb => ⟨.inl hb, rfl⟩, fun b hb => ⟨.inl hb, rfl⟩, fun _ h => h, fun _ _ => rfl, fun _ _ => rfl⟩
      have hob := (h.objs i _ hf).2
      have hlt : ∀ i o, find os i = some o → m.D i := fun i o hf => (h.objs i o hf).1
      have hold : ∀ j, j ≠ i → blk (upd os i (.frow t xs)) m' j = blk os m j := fun j hj => by
        unfold blk
        rw [find_upd, if_neg (fun e => hj e.symm)]
      have hnew : blk (upd os i (.frow t xs)) m' i = none := by
        unfold blk
        rw [find_upd, if_pos rfl, hf]
        rfl
      have hall : ∀ j b, blk (upd os i (.frow t xs)) m' j = some b → blk os m j = some b ∧ j ≠ i := fun j b hh => by
        by_cases hj : j = i
        · subst hj; rw [hnew] at hh; simp at hh
        · rw [hold j hj] at hh; exact ⟨hh, hj⟩
      refine ⟨m', hle, rfl, rfl, rfl, rfl, h.base, fun j p hj => ?_, fun j k b h1 h2 => h.inj j k b (hall j b h1).1 (hall k b h2).1, fun j b h1 => ?_, fun b hg => ?_, fun b hg => ?_, fun b hg => ?_, fun b hg => hg.imp (h.gh b) id⟩
      · rw [find_upd] at hj
        by_cases e : i = j
        · rw [if_pos e, hf] at hj
          obtain rfl := Option.some.inj hj
          subst e
          refine ⟨hlt i _ hf, ?_⟩
          show Val m.w m'.G (.sl t) xs [m.ν i]
          exact RowAt.val hob (fun b hb => .inl hb) fun a n c e => .inr (by unfold blk; rw [hf]; simp [e, Value.ownBlock])
        · rw [if_neg e] at hj
          exact ⟨hlt j p hj, Ob.le hle (hlt j p hj) (h.objs j p hj).2 os hj fun _ _ => rfl⟩
      · obtain ⟨hj, hne⟩ := hall j b h1
        obtain ⟨a1, a2, a3, a4⟩ := h.out j b hj
        refine ⟨fun hg => ?_, fun hg => ?_, a3, a4⟩
        · rcases hg with hg | hg
          · exact a1 hg
          · exact hne (h.inj j i b hj hg)
        · rcases hg with hg | hg
          · exact a2 hg
          · exact hne (h.inj j i b hj hg)
      · rcases hg with hg | hg
        · exact h.liveG b hg
        · exact (h.out i b hg).2.2.1
      · rcases hg with hg | hg
        · exact h.liveH b hg
        · exact (h.out i b hg).2.2.1
      · rcases hg with hg | hg
        · exact h.subG b hg
        · exact .inr (h.out i b hg).2.2.2
theorem ObjsOk.freezeAll : ∀ (l : List Nat) {os : List (Nat × Obj)} {m : St}, ObjsOk w0 G0 m os → ∃ m', m.le m' ∧ m'.w = m.w ∧ m'.D = m.D ∧ m'.β = m.β ∧ m'.ν = m.ν ∧ ObjsOk w0 G0 m' (freezeAll l os)
  | [], _, m, h => ⟨m, .refl m, rfl, rfl, rfl, rfl, h⟩
  | i :: r, _, m, h => by
    obtain ⟨m1, l1, w1, n1, b1, v1, h1⟩ := h.freezeRow i
    obtain ⟨m2, l2, w2, n2, b2, v2, h2⟩ := ObjsOk.freezeAll r h1
    exact ⟨m2, l1.trans l2, w2.trans w1, n2.trans n1, b2.trans b1, v2.trans v1, h2⟩
/-- Freezing what lies on the left. -/
theorem freezeRow_left {l l' : List (Nat × Obj)} (id : Nat) : (∀ i, find (freezeRow l id ++ l') i = find (l ++ l') i) ∨ ∀ i, find (freezeRow l id ++ l') i = find (freezeRow (l ++ l') id) i := by
  unfold Ev.freezeRow
  cases hf : find l id with
  | none => exact .inl fun _ => rfl
  | some o =>
    cases o with
    | var vs => exact .inl fun _ => rfl
    | frow t xs => exact .inl fun _ => rfl
    | row T t xs =>
      right
      intro i
      rw [find_append l l', hf]
      exact upd_left (.frow t xs) hf i
theorem freezeRow_dom (l : List (Nat × Obj)) (id i : Nat) (o : Obj) (h : find (freezeRow l id) i = some o) : ∃ o', find l i = some o' := by
  unfold Ev.freezeRow at h
  cases hf : find l id with
  | none => rw [hf] at h; exact ⟨_, h⟩
  | some p =>
    cases p with
    | var vs => rw [hf] at h; exact ⟨_, h⟩
    | frow t xs => rw [hf] at h; exact ⟨_, h⟩
    | row T t xs =>
      rw [hf] at h
      simp only at h
      rw [find_upd] at h
      by_cases hi : id = i
      · subst hi; exact ⟨_, hf⟩
      · rw [if_neg hi] at h; exact ⟨_, h⟩
theorem freezeAll_dom : ∀ (ids : List Nat) (l : List (Nat × Obj)) (i : Nat) (o : Obj), find (freezeAll ids l) i = some o → ∃ o', find l i = some o'
  | [], _, _, o, h => ⟨o, h⟩
  | j :: r, l, i, o, h => by
    obtain ⟨o', h'⟩ := freezeAll_dom r _ i o h
    exact freezeRow_dom l j i o' h'
theorem ObjsOk.freezeLeft : ∀ (ids : List Nat) {l : List (Nat × Obj)} {m : St}, ObjsOk w0 G0 m (l ++ F) → ∃ m', m.le m' ∧ m'.w = m.w ∧ m'.D = m.D ∧ m'.β = m.β ∧ m'.ν = m.ν ∧ ObjsOk w0 G0 m' (Ev.freezeAll ids l ++ F)
  | [], _, m, h => ⟨m, .refl m, rfl, rfl, rfl, rfl, h⟩
  | i :: r, l, m, h => by
    rcases freezeRow_left (l := l) (l' := F) i with hc | hc
    · exact ObjsOk.freezeLeft r (h.congr hc)
    · obtain ⟨m1, l1, w1, n1, b1, v1, h1⟩ := h.freezeRow i
      obtain ⟨m2, l2, w2, n2, b2, v2, h2⟩ := ObjsOk.freezeLeft r (h1.congr hc)
      exact ⟨m2, l1.trans l2, w2.trans w1, n2.trans n1, b2.trans b1, v2.trans v1, h2⟩
theorem Rel.freeze (h : Rel w0 G0 N F m e tm) (l : List Nat) : ∃ m', m.le m' ∧ m'.w = m.w ∧ m'.D = m.D ∧ Rel w0 G0 N F m' (e.freeze l) tm := by
  obtain ⟨m', hl, hw, hn, _, _, ho⟩ := h.ok.freezeLeft l
  exact ⟨m', hl, hw, hn, h.objs hl _ _ ho fun i o hf => by
    obtain ⟨o', h'⟩ := freezeAll_dom l _ i o hf
    exact h.disj i o' h'⟩

/-- One step of the evaluator: at most one new name, the next. -/
structure Stp (m : St) (e : Env) (m' : St) (e' : Env) : Prop where
  le : m.le m'
  D : ∀ i, m'.D i → m.D i ∨ (i = e.next ∧ e'.next = e.next + 1)
  next : e'.next = e.next ∨ e'.next = e.next + 1
  slots : e'.slots = e.slots
theorem Stp.same (hle : m.le m') (hD : m'.D = m.D) {e' : Env} (hn : e'.next = e.next) (hs : e'.slots = e.slots := by rfl) : Stp m e m' e' := ⟨hle, fun i hi => .inl (by rw [← hD]; exact hi), .inl hn, hs⟩
theorem Stp.refl (m : St) (e : Env) : Stp m e m e := .same (.refl m) rfl rfl
theorem Stp.new (hle : m.le m') (hD : ∀ i, m'.D i ↔ m.D i ∨ i = e.next) {e' : Env} (hn : e'.next = e.next + 1) (hs : e'.slots = e.slots := by rfl) : Stp m e m' e' := ⟨hle, fun i hi => ((hD i).1 hi).imp id fun h => ⟨h, hn⟩, .inr hn, hs⟩
/-- The new object's name is nowhere else. -/
theorem Rel.push (h : Rel w0 G0 N F m e tm) (hfr : ¬ m.D e.next) (hle : m.le m') (o : Obj) (ho : ObjsOk w0 G0 m' ((e.next, o) :: (e.objs ++ F))) : Rel w0 G0 N F m' (e.new o) tm :=
  h.objs hle _ _ ho fun i p hf => by
    rw [find_cons] at hf
    by_cases hi : e.next = i
    · subst hi
      cases hF : find F e.next with
      | none => rfl
      | some q =>
        have := h.ok.objs e.next q (by
          rw [find_append, hF]
          cases hE : find e.objs e.next with
          | none => rfl
          | some z => exact absurd (h.obj _ _ hE).1 hfr)
        exact absurd this.1 hfr
    · rw [if_neg hi] at hf
      exact h.disj i p hf
end Go.Ev
