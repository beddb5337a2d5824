/- append, make. -/
import Derived.Test.YticlnmiakaelkaaEvOp5
set_option linter.unusedSimpArgs false
set_option linter.unusedVariables false
namespace Go.Ev
open Go.RowKit (Below)

theorem cellsAt_append {w : World} {b o : Nat} {l l' : List Value} (h : CellsAt w b o l) (h' : CellsAt w b (o + l.length) l') : CellsAt w b o (l ++ l') := by
  intro j v hv
  by_cases hj : j < l.length
  · rw [List.getElem?_append_left hj] at hv
    exact h j v hv
  · rw [List.getElem?_append_right (by omega)] at hv
    have := h' (j - l.length) v hv
    have e : o + l.length + (j - l.length) = o + j := by omega
    rwa [e] at this

/-- the cells of several elements, one behind the other -/
theorem flat_of {w : World} {sz : Nat} (f : Nat → List Value → Prop) (b o : Nat) : ∀ n, (∀ j, j < n → ∃ cs', CellsAt w b (o + j * sz) cs' ∧ f j cs' ∧ cs'.length = sz ∧ ∀ u ∈ cs', u.oneCell' = true) →
    ∃ flat : List Value, flat.length = n * sz ∧ CellsAt w b o flat ∧ (∀ j, j < n → f j ((flat.drop (j * sz)).take sz)) ∧ ∀ u ∈ flat, u.oneCell' = true
  | 0, _ => ⟨[], by simp, fun j v h => by simp at h, fun j h => absurd h (by omega), fun u h => by simp at h⟩
  | n + 1, h => by
    obtain ⟨fl, hl, hc, hf, h1⟩ := flat_of f b o n fun j hj => h j (by omega)
    obtain ⟨cs', c1, c2, c3, c4⟩ := h n (by omega)
    refine ⟨fl ++ cs', by rw [List.length_append, hl, c3, Nat.add_mul, Nat.one_mul], cellsAt_append hc (by rw [hl]; exact c1), fun j hj => ?_, fun u hu => ?_⟩
    · by_cases hjn : j < n
      · have hle : (j + 1) * sz ≤ n * sz := Nat.mul_le_mul_right _ hjn
        rw [Nat.add_mul, Nat.one_mul] at hle
        rw [List.drop_append_of_le_length (by omega), List.take_append_of_le_length (by rw [List.length_drop]; omega)]
        exact hf j hjn
      · have hj' : j = n := by omega
        subst hj'
        have e : (fl ++ cs').drop (j * sz) = cs' := by rw [← hl, List.drop_left]
        rw [e, List.take_of_length_le (by omega)]
        exact c2
    · rcases List.mem_append.1 hu with hu | hu
      · exact h1 u hu
      · exact c4 u hu
theorem Val.oneCells {m : St} {t : Ty} {x : t.den} {cs : List Value} (h : Val m.w m.G t x cs) : ∀ u ∈ cs, u.oneCell' = true := R2.oneCells h.enc

/-- What can be appended. -/
def Src (m : St) (t : Ty) (ys : List t.den) (x : Value) : Prop :=
  ∃ A c, ∃ news : List Value, x = .slice A ys.length c ∧ news.length = ys.length * t.size ∧
    (0 < ys.length → ∃ ad : Addr, A = some ad ∧ ∀ j u, news[j]? = some u → m.w.cell? (ad.add j) = some u) ∧
    (∀ j, j < ys.length → Val m.w m.G t (ys.getD j t.zero) ((news.drop (j * t.size)).take t.size)) ∧ ∀ u ∈ news, u.oneCell' = true

theorem Src.of_val {m : St} {t : Ty} {ys : List t.den} {x : Value} (h : Val m.w m.G (.sl t) ys [x]) : Src m t ys x := by
  obtain ⟨A, n, c, e, hl, hc, hel⟩ := h
  simp only [List.cons.injEq, and_true] at e
  subst e
  by_cases h0 : 0 < ys.length
  · obtain ⟨a, _, ha, hs, _⟩ := hel 0 h0
    obtain ⟨flat, h1, h2, h3, h4⟩ := flat_of (w := m.w) (sz := t.size) (fun j cs' => Val m.w m.G t (ys.getD j t.zero) cs') a.block a.off ys.length fun j hj => by
      obtain ⟨a', cs', ha', hs', _, hc', hv'⟩ := hel j hj
      rw [ha] at ha'
      obtain rfl := Option.some.inj ha'
      exact ⟨cs', hc', hv', hv'.length, Val.oneCells (m := m) hv'⟩
    refine ⟨A, c, flat, by rw [hl], h1, fun _ => ⟨a, ha, fun j u hu => ?_⟩, h3, h4⟩
    rw [addr_eta hs, addr_add]
    exact h2 j u hu
  · have : ys = [] := List.eq_nil_of_length_eq_zero (by omega)
    subst this
    exact ⟨A, c, [], by rw [← hl], by simp, fun h => absurd h (by simp), fun j h => absurd h (by simp), fun u h => by simp at h⟩
theorem Src.of_row {m : St} {T : Nat} {t : Ty} {ys : List t.den} {x : Value} (h : RowAt m.w m.G T t ys x) : Src m t ys x := by
  rcases h with ⟨rfl, rfl⟩ | ⟨b, c, cs, e, hh, h1, h2, h3, hx⟩
  · exact ⟨none, 0, [], rfl, by simp, fun h => absurd h (by simp), fun j h => absurd h (by simp), fun u h => by simp at h⟩
  · obtain ⟨flat, g1, g2, g3, g4⟩ := flat_of (w := m.w) (sz := t.size) (fun j cs' => Val m.w m.G t (ys.getD j t.zero) cs') b 0 ys.length fun j hj => by
      obtain ⟨cs', hc', hv'⟩ := hx j hj
      exact ⟨cs', by simpa using hc', hv', hv'.length, Val.oneCells (m := m) hv'⟩
    refine ⟨_, c, flat, e, g1, fun _ => ⟨⟨b, 0, none⟩, rfl, fun j u hu => ?_⟩, g3, g4⟩
    rw [addr_add]
    exact g2 j u hu

theorem RowAt.mk {w : World} {G : Nat → Prop} {T b c : Nat} {t : Ty} {zs : List t.den} {cur flat : List Value} (hh : w.heap[b]? = some (.cells cur.toArray T (0, 0))) (hc : zs.length ≤ c) (hm : c ≤ maxLen) (hl : cur.length = c * t.size)
    (hf : cur.take (zs.length * t.size) = flat) (hv : ∀ j, j < zs.length → Val w G t (zs.getD j t.zero) ((flat.drop (j * t.size)).take t.size)) : RowAt w G T t zs (.slice (some ⟨b, 0, none⟩) zs.length c) := by
  refine .inr ⟨b, c, cur, rfl, hh, hc, hm, hl, fun j hj => ⟨_, ?_, hv j hj⟩⟩
  rw [cells_get hh]
  intro q v hq
  rw [← hf, List.getElem?_take] at hq
  split at hq
  · rw [List.getElem?_drop, List.getElem?_take] at hq
    split at hq
    · exact hq
    · simp at hq
  · simp at hq
/-- two lists of elements, one behind the other -/
theorem pieces_append {w : World} {G : Nat → Prop} {t : Ty} {xs ys : List t.den} {f g : List Value} (hf : f.length = xs.length * t.size) (hg : g.length = ys.length * t.size)
    (h1 : ∀ j, j < xs.length → Val w G t (xs.getD j t.zero) ((f.drop (j * t.size)).take t.size)) (h2 : ∀ j, j < ys.length → Val w G t (ys.getD j t.zero) ((g.drop (j * t.size)).take t.size)) :
    ∀ j, j < (xs ++ ys).length → Val w G t ((xs ++ ys).getD j t.zero) (((f ++ g).drop (j * t.size)).take t.size) := by
  intro j hj
  rw [List.length_append] at hj
  by_cases h : j < xs.length
  · have hle : (j + 1) * t.size ≤ xs.length * t.size := Nat.mul_le_mul_right _ h
    rw [Nat.add_mul, Nat.one_mul] at hle
    rw [List.drop_append_of_le_length (by omega), List.take_append_of_le_length (by rw [List.length_drop]; omega)]
    have e : (xs ++ ys).getD j t.zero = xs.getD j t.zero := by simp [List.getD_eq_getElem?_getD, List.getElem?_append_left h]
    rw [e]
    exact h1 j h
  · have e1 : j * t.size = f.length + (j - xs.length) * t.size := by
      rw [hf, ← Nat.add_mul]; congr 1; omega
    rw [e1, ← List.drop_drop, List.drop_left]
    have e : (xs ++ ys).getD j t.zero = ys.getD (j - xs.length) t.zero := by simp [List.getD_eq_getElem?_getD, List.getElem?_append_right (show xs.length ≤ j by omega)]
    rw [e]
    exact h2 _ (by omega)

section
variable {P : Program} {w0 : World} {G0 : Nat → Prop} {N : Nat} {F : List (Nat × Obj)} {m : St} {e : Env} {tm : Array Value} {Γ : Tab} {ρ : Type} {os : List (Nat × Obj)}

theorem run_append_empty {t ty el : TypeId} {i : TypeInfo} (ht : P.underlying t = some (.slice el)) (hi : P.info? el = some i) (w : World) (b : Option Addr) (n c : Nat) (A : Option Addr) (c' : Nat) (h : n ≤ c) :
    (Builtin.append_ #[t, t] ty #[.slice b n c, .slice A 0 c']).run P w = .ok (.slice b n c) w := by
  cases A <;> cases b <;> simp [Builtin.append_, run_underlying ht, sizeOf, typeInfo, hi, Builtin.lenOf, h, Builtin.firstCells, loadCells, loadCellsFrom, storeCells]

theorem append_sound (hΓ : TabOk P Γ) (hok : ObjsOk w0 G0 m os) {T : Nat} {ti : TI} (hf : find Γ T = some ti) {t : Ty} (ht : ti.ty = .sl t) {xs ys : List t.den} {v x : Value} {ty : TypeId}
    (hrow : RowAt m.w m.G ti.elem t xs v) (hx : Src m t ys x) (hcap : xs.length + ys.length ≤ capN)
    (hv : ∀ a n c, v = .slice (some a) n c → w0.heap.size ≤ a.block ∧ a.block < m.w.heap.size ∧ ¬ m.G a.block ∧ ¬ m.H a.block ∧ ∀ i, blk os m i ≠ some a.block) {q : Nat} (hfr : ¬ m.D q) :
    ∃ m', (Builtin.append_ #[T, T] ty #[v, x]).run P m.w = .ok (m'.ν q) m'.w ∧ m.le m' ∧ (∀ i, m'.D i ↔ m.D i ∨ i = q) ∧ (∃ A n c, m'.ν q = .slice A n c) ∧ ObjsOk w0 G0 m' ((q, .row ti.elem t (xs ++ ys)) :: os) := by
  obtain ⟨hu, hpos, tj, _, _, i, z, zs, hi, hsz, hby, hz, hzc, _⟩ := elem_info hΓ hf ht
  obtain ⟨A, c, news, rfl, hnl, hna, hnv, hn1⟩ := hx
  have hzs : z.cells.size = t.size := by
    obtain ⟨h1, h2, tj, h3, h4, i', z', zs', hi', hs', hb', hz', hc', hr'⟩ := elem_info hΓ hf ht
    rw [hi] at hi'
    obtain rfl := Option.some.inj hi'
    rw [hz] at hz'
    obtain rfl := Option.some.inj hz'
    have hq := (hr' m).length
    have hzl : ∀ t : Ty, (zeros t []).length = t.size := by
      intro t
      have key : ∀ (t : Ty) (l : List V), (zeros t l).length = t.size + l.length := by
        intro t
        induction t with
        | pair a b iha ihb => intro l; simp only [zeros, iha, ihb, Ty.size]; omega
        | _ => intro l; simp [zeros, Ty.size]; try omega
      simpa using key t []
    rw [hc', List.size_toArray, ← hq, hzl]
  have hmax : xs.length + ys.length ≤ maxLen := by simp only [capN] at hcap; simp only [maxLen]; omega
  have h63 : ((xs.length + ys.length : Nat) : Int) ≤ 9223372036854775807 := by simp only [capN] at hcap; omega
  have hbytes : (xs.length + ys.length) * i.bytes ≤ 140737488355328 := by
    simp only [capN] at hcap
    have h1 := Nat.mul_le_mul hcap hby
    omega
  have hG : ∀ (w' : World), (∀ b, m.G b → w'.heap[b]? = m.w.heap[b]?) → ∀ b, m.G b → m.G b ∧ w'.heap[b]? = m.w.heap[b]? := fun w' h b hb => ⟨hb, h b hb⟩
  by_cases hy0 : ys.length = 0
  · -- nothing is appended
    have : ys = [] := List.eq_nil_of_length_eq_zero hy0
    subst this
    obtain ⟨m', hle, hw, hn, hν, hok'⟩ := hok.newRow m.w ti.elem t (xs ++ []) v hok.base (fun _ _ => rfl) (fun _ _ => rfl) (Nat.le_refl _) (fun _ _ _ => rfl) (by simpa using hrow) hfr hv
    refine ⟨m', ?_, hle, hn, ?_, hok'⟩
    · rw [hν, hw]
      rcases hrow with ⟨rfl, _⟩ | ⟨b, c', cs, rfl, _, h1, _⟩
      · exact run_append_empty hu hi _ _ _ _ _ _ (Nat.le_refl _)
      · exact run_append_empty hu hi _ _ _ _ _ _ h1
    · rw [hν]
      rcases hrow with ⟨rfl, _⟩ | ⟨b, c', cs, rfl, _, h1, _⟩
      · exact ⟨_, _, _, rfl⟩
      · exact ⟨_, _, _, rfl⟩
  · obtain ⟨ad, rfl, hcells⟩ := hna (by omega)
    -- a row in a new block
    have fresh : ∀ (old : Nat) (flat : List Value), flat.length = xs.length * t.size → (∀ j, j < xs.length → Val m.w m.G t (xs.getD j t.zero) ((flat.drop (j * t.size)).take t.size)) → old < xs.length + ys.length →
        (Builtin.append_ #[T, T] ty #[v, .slice (some ad) ys.length c]).run P m.w = .ok (.slice (some ⟨m.w.heap.size, 0, none⟩) (xs.length + ys.length) (grownCap m.w (xs.length + ys.length) old ti.elem))
          (m.w.drew.alloc (.cells (flat ++ news ++ (Builtin.zeroCells z.cells (grownCap m.w (xs.length + ys.length) old ti.elem - (xs.length + ys.length))).toList).toArray ti.elem)) →
        ∃ m', (Builtin.append_ #[T, T] ty #[v, .slice (some ad) ys.length c]).run P m.w = .ok (m'.ν q) m'.w ∧ m.le m' ∧ (∀ i, m'.D i ↔ m.D i ∨ i = q) ∧ (∃ A n c, m'.ν q = .slice A n c) ∧ ObjsOk w0 G0 m' ((q, .row ti.elem t (xs ++ ys)) :: os) := by
      intro old flat hfl hfv hold hrun
      have hge := grownCap_ge m.w (xs.length + ys.length) old ti.elem
      have hcm := grownCap_le_maxLen m.w (xs.length + ys.length) old ti.elem hmax
      generalize grownCap m.w (xs.length + ys.length) old ti.elem = gc at hrun hge hcm
      generalize hcur : flat ++ news ++ (Builtin.zeroCells z.cells (gc - (xs.length + ys.length))).toList = cur at hrun
      have hheap : ∀ b, b < m.w.heap.size → (m.w.drew.alloc (.cells cur.toArray ti.elem)).heap[b]? = m.w.heap[b]? := fun b hb => Below.heap_alloc m.w.drew _ _ hb
      have hsame : ∀ b, m.G b → m.G b ∧ (m.w.drew.alloc (.cells cur.toArray ti.elem)).heap[b]? = m.w.heap[b]? := fun b hb => ⟨hb, hheap b (hok.liveG b hb)⟩
      have hrow' : RowAt (m.w.drew.alloc (.cells cur.toArray ti.elem)) m.G ti.elem t (xs ++ ys) (.slice (some ⟨m.w.heap.size, 0, none⟩) (xs.length + ys.length) gc) := by
        have hlen : (xs ++ ys).length = xs.length + ys.length := List.length_append
        rw [← hlen]
        refine RowAt.mk (flat := flat ++ news) (heap_alloc_new m.w.drew _) (by omega) hcm ?_ ?_ ?_
        · rw [← hcur]
          simp only [List.length_append, Array.length_toList, size_zeroCells, hzs, hfl, hnl, ← Nat.add_mul]
          congr 1; omega
        · rw [← hcur, hlen]
          have : (xs.length + ys.length) * t.size = (flat ++ news).length := by rw [List.length_append, hfl, hnl, Nat.add_mul]
          rw [this, List.take_left]
        · exact pieces_append hfl hnl (fun j hj => Val.mono hsame _ _ _ (hfv j hj)) (fun j hj => Val.mono hsame _ _ _ (hnv j hj))
      obtain ⟨m', hle, hw, hn, hν, hok'⟩ := hok.newRow _ ti.elem t (xs ++ ys) _ ((hok.base.drew).alloc (by simpa using hok.base.size) _) (fun b hb => (hsame b hb).2) (fun b hb => hheap b (hok.liveH b hb)) (by simp) (fun i b hb => hheap b (hok.out i b hb).2.2.1) hrow' hfr (by
        intro a n c' e1
        simp only [Value.slice.injEq, Option.some.injEq] at e1
        obtain ⟨rfl, _, _⟩ := e1
        refine ⟨hok.base.size, by simp, fun hg => ?_, fun hg => ?_, fun i hi => ?_⟩
        · have := hok.liveG _ hg; simp at this
        · have := hok.liveH _ hg; simp at this
        · have := (hok.out i _ hi).2.2.1; simp at this)
      exact ⟨m', by rw [hν, hw]; exact hrun, hle, hn, ⟨_, _, _, hν⟩, hok'⟩
    rcases hrow with ⟨rfl, rfl⟩ | ⟨b, cc, cs, rfl, hh, h1, h2, h3, hel⟩
    · refine fresh 0 [] (by simp) (fun j hj => absurd hj (by simp)) (by simp; omega) ?_
      have hb0 : ys.length * i.bytes ≤ 281474976710656 := by simp only [List.length_nil, Nat.zero_add] at hbytes; omega
      have hr := run_append_nil (P := P) m.w T ty ti.elem i z hu hi hz ad ys.length c news (by rw [hnl, hsz]) hcells (by omega) (by simp only [List.length_nil, Nat.zero_add] at h63; exact h63) hb0
      simp only [List.length_nil, Nat.zero_add, List.nil_append]
      rw [hr]
      congr 3
      apply Array.ext'
      simp
    · obtain ⟨flat, g1, g2, g3, g4⟩ := flat_of (w := m.w) (sz := t.size) (fun j cs' => Val m.w m.G t (xs.getD j t.zero) cs') b 0 xs.length fun j hj => by
        obtain ⟨cs', hc', hv'⟩ := hel j hj
        exact ⟨cs', by simpa using hc', hv', hv'.length, Val.oneCells (m := m) hv'⟩
      have hcflat : flat = cs.take (xs.length * t.size) := by
        have hcg := (cells_get hh 0 flat).1 g2
        have hle : xs.length * t.size ≤ cs.length := by rw [h3]; exact Nat.mul_le_mul_right _ h1
        apply List.ext_getElem?
        intro q
        by_cases hq : q < flat.length
        · rw [List.getElem?_eq_getElem hq, List.getElem?_take, if_pos (by omega)]
          have := hcg q _ (List.getElem?_eq_getElem hq)
          rw [Nat.zero_add] at this
          exact this.symm
        · rw [List.getElem?_eq_none (by omega), List.getElem?_take, if_neg (by omega)]
      by_cases hroom : xs.length + ys.length ≤ cc
      · -- there is room
        have hfit : xs.length * i.size + news.length ≤ cs.toArray.size := by
          rw [hsz, hnl, List.size_toArray, h3, ← Nat.add_mul]
          exact Nat.mul_le_mul_right _ hroom
        have hr := run_append_room (P := P) m.w T ty ti.elem i hu hi b xs.length cc cs.toArray hh ad ys.length c news (by rw [hnl, hsz]) hcells hn1 hroom hfit
        rw [hsz] at hr
        have hfit' : xs.length * t.size + news.length ≤ cs.length := by rw [hsz] at hfit; simpa using hfit
        obtain ⟨o1, o2, o3, o4, o5⟩ := hv _ _ _ rfl
        simp only at o1 o2 o3 o4 o5
        have hheap : ∀ q, q ≠ b → ∀ ncs, (m.w.setRow b ncs).heap[q]? = m.w.heap[q]? := fun q hq ncs => setRow_other _ _ _ _ hq
        generalize hcur : cs.toArray.toList.take (xs.length * t.size) ++ news ++ cs.toArray.toList.drop (xs.length * t.size + news.length) = cur at hr
        have hnh := setRow_heap m.w b _ cur.toArray _ _ hh
        have hsame : ∀ q, m.G q → m.G q ∧ (m.w.setRow b cur.toArray).heap[q]? = m.w.heap[q]? := fun q hq => ⟨hq, hheap q (fun e => o3 (e ▸ hq)) _⟩
        have hrow' : RowAt (m.w.setRow b cur.toArray) m.G ti.elem t (xs ++ ys) (.slice (some ⟨b, 0, none⟩) (xs.length + ys.length) cc) := by
          have hlen : (xs ++ ys).length = xs.length + ys.length := List.length_append
          rw [← hlen]
          refine RowAt.mk (flat := flat ++ news) hnh (by omega) h2 ?_ ?_ ?_
          · rw [← hcur, splice_length _ _ _ hfit']; exact h3
          · rw [← hcur, hlen, hcflat]
            have hl2 : (cs.take (xs.length * t.size) ++ news).length = (xs.length + ys.length) * t.size := by
              rw [List.length_append, ← hcflat, g1, hnl, Nat.add_mul]
            rw [← hl2, List.take_left]
          · exact pieces_append g1 hnl (fun j hj => Val.mono hsame _ _ _ (g3 j hj)) (fun j hj => Val.mono hsame _ _ _ (hnv j hj))
        obtain ⟨m', hle, hw, hn, hν, hok'⟩ := hok.newRow _ ti.elem t (xs ++ ys) _ (below_setRow hok.base o1 _) (fun q hq => (hsame q hq).2) (fun q hq => hheap q (fun e => o4 (e ▸ hq)) _) (by simp [World.setRow]) (fun i q hq => hheap q (fun e => o5 i (e ▸ hq)) _) hrow' hfr (by
          intro a n c' e1
          simp only [Value.slice.injEq, Option.some.injEq] at e1
          obtain ⟨rfl, _, _⟩ := e1
          exact ⟨o1, by simpa [World.setRow] using o2, o3, o4, o5⟩)
        exact ⟨m', by rw [hν, hw]; exact hr, hle, hn, ⟨_, _, _, hν⟩, hok'⟩
      · -- it grows
        refine fresh cc flat g1 g3 (by omega) ?_
        have hr := run_append_grow (P := P) m.w T ty ti.elem i z hu hi hz ⟨b, 0, none⟩ xs.length cc flat (by rw [g1, hsz]) (fun j u hu' => by rw [addr_add]; exact g2 j u hu') ad ys.length c news (by rw [hnl, hsz]) hcells (by omega) h63 (growslice_fits (by omega) hbytes)
        rw [hr]
        congr 3
        apply Array.ext'
        simp
end
end Go.Ev
