/- Made rows, literals. -/
import Derived.Test.YticlnmiakaelkaaEvOp6
import Derived.Great.FillDense
import Derived.Laws.Tables
set_option linter.unusedSimpArgs false
set_option linter.unusedVariables false
namespace Go.Ev
open Go.RowKit (Below)

theorem zeros_append : ∀ (t : Ty) (l : List V), zeros t l = zeros t [] ++ l
  | .int _, _ => rfl
  | .bool, _ => rfl
  | .str, _ => rfl
  | .sl _, _ => rfl
  | .unit, _ => rfl
  | .pair a b, l => by simp only [zeros]; rw [zeros_append a (zeros b l), zeros_append b l, zeros_append a (zeros b []), List.append_assoc]
theorem zeros_length (t : Ty) : (zeros t []).length = t.size := by
  have key : ∀ (t : Ty) (l : List V), (zeros t l).length = t.size + l.length := by
    intro t
    induction t with
    | pair a b iha ihb => intro l; simp only [zeros, iha, ihb, Ty.size]; omega
    | _ => intro l; simp [zeros, Ty.size]; try omega
  simpa using key t []
theorem zero_val {m : St} : ∀ {t : Ty} {cs : List Value}, R2 (Lv m) (zeros t []) cs → Val m.w m.G t t.zero cs
  | .int _, [_], ⟨h, _⟩ => by simp only [Lv] at h; subst h; rfl
  | .bool, [_], ⟨h, _⟩ => by simp only [Lv] at h; subst h; rfl
  | .str, [_], ⟨⟨s, h, e⟩, _⟩ => ⟨s, by rw [h], e⟩
  | .sl t, [v], ⟨h, _⟩ => by
    simp only [Lv] at h
    subst h
    exact ⟨none, 0, 0, rfl, rfl, Nat.le_refl _, fun j hj => absurd hj (by simp [Ty.zero])⟩
  | .unit, [], _ => rfl
  | .pair a b, cs, h => by
    simp only [zeros] at h
    rw [zeros_append] at h
    obtain ⟨c1, c2, e, h1, h2⟩ := h.split
    exact ⟨c1, c2, e, zero_val h1, zero_val h2⟩

/-- One part of a literal goes in. -/
theorem fill_step {place : Nat → Option (Nat × Nat)} {cells : List Value} {i off size : Nat} {v : Value} {vs : List Value} {rest : List (Nat × Value)} (hp : place i = some (off, size)) (hv : v.cells = vs.toArray) (hs : vs.length = size) (hfit : off + vs.length ≤ cells.length) :
    Instr.fill place cells.toArray ((i, v) :: rest) = Instr.fill place (cells.take off ++ vs ++ cells.drop (off + vs.length)).toArray rest := by
  have e1 : ¬ (v.cells.size ≠ size || off + v.cells.size > cells.toArray.size) = true := by
    rw [hv]
    simp only [List.size_toArray, ne_eq, decide_not, gt_iff_lt, Bool.or_eq_true, Bool.not_eq_eq_eq_not, Bool.not_true, decide_eq_false_iff_not, decide_eq_true_eq]
    omega
  have key : (v.cells.zipIdx.foldl (fun cs (x : Value × Nat) => cs.setIfInBounds (off + x.2) x.1) cells.toArray) = (cells.take off ++ vs ++ cells.drop (off + vs.length)).toArray := by
    rw [← Array.foldl_toList, Array.toList_zipIdx, hv]
    obtain ⟨h1, h2⟩ := Great.foldl_set off vs 0 cells.toArray
    apply Array.ext_getElem?
    intro k
    have h2 := h2 k
    refine Eq.trans h2 ?_
    simp only [List.getElem?_toArray, Nat.add_zero, List.size_toArray]
    rw [get_splice _ _ _ hfit]
    by_cases q1 : k < off
    · rw [if_neg (by omega), if_pos q1]
    · rw [if_neg q1]
      by_cases q2 : k < off + vs.length
      · rw [if_pos ⟨by omega, q2, by omega⟩, if_pos q2]
      · rw [if_neg (by omega), if_neg q2]
  conv => lhs; unfold Instr.fill
  simp only [hp]
  rw [if_neg e1, key]

theorem madeCells_piece (z : List Value) (hz : 0 < z.length) (n j : Nat) (hj : j < n) : (((madeCells z.toArray (n * z.length)).toList.drop (j * z.length)).take z.length) = z := by
  have hle : (j + 1) * z.length ≤ n * z.length := Nat.mul_le_mul_right _ hj
  rw [Nat.add_mul, Nat.one_mul] at hle
  apply List.ext_getElem?
  intro q
  rw [List.getElem?_take]
  by_cases hq : q < z.length
  · rw [if_pos hq, List.getElem?_drop]
    have h1 : j * z.length + q < n * z.length := by omega
    have h2 : (j * z.length + q) % z.length = q := by rw [Nat.mul_comm, Nat.mul_add_mod, Nat.mod_eq_of_lt hq]
    simp [madeCells, h1, h2, hq]
  · rw [if_neg hq, List.getElem?_eq_none (by omega)]

section
variable {P : Program} {w0 : World} {G0 : Nat → Prop} {N : Nat} {F : List (Nat × Obj)} {m : St} {e : Env} {tm : Array Value} {Γ : Tab} {ρ : Type} {os : List (Nat × Obj)}

/-- A row in a new block. -/
theorem Rel.freshRow (hR : Rel w0 G0 N F m e tm) {T : Nat} {t : Ty} {xs : List t.den} {cur : List Value} {c : Nat} (hc : xs.length ≤ c) (hm : c ≤ maxLen) (hl : cur.length = c * t.size)
    (hv : ∀ j, j < xs.length → Val m.w m.G t (xs.getD j t.zero) ((cur.drop (j * t.size)).take t.size)) (hfr : ¬ m.D e.next) :
    ∃ m', Stp m e m' (e.new (.row T t xs)) ∧ m'.w = m.w.alloc (.cells cur.toArray T) ∧ Rel w0 G0 N F m' (e.new (.row T t xs)) tm ∧ Lv m' (.row e.next) (.slice (some ⟨m.w.heap.size, 0, none⟩) xs.length c) := by
  have hok := hR.ok
  have hheap : ∀ b, b < m.w.heap.size → (m.w.alloc (.cells cur.toArray T)).heap[b]? = m.w.heap[b]? := fun b hb => Below.heap_alloc m.w _ _ hb
  have hsame : ∀ b, m.G b → m.G b ∧ (m.w.alloc (.cells cur.toArray T)).heap[b]? = m.w.heap[b]? := fun b hb => ⟨hb, hheap b (hok.liveG b hb)⟩
  have hrow : RowAt (m.w.alloc (.cells cur.toArray T)) m.G T t xs (.slice (some ⟨m.w.heap.size, 0, none⟩) xs.length c) := by
    refine RowAt.mk (flat := cur.take (xs.length * t.size)) (heap_alloc_new m.w _) hc hm hl rfl fun j hj => ?_
    have hle : (j + 1) * t.size ≤ xs.length * t.size := Nat.mul_le_mul_right _ hj
    rw [Nat.add_mul, Nat.one_mul] at hle
    have e1 : ((cur.take (xs.length * t.size)).drop (j * t.size)).take t.size = (cur.drop (j * t.size)).take t.size := by
      rw [List.drop_take, List.take_take, Nat.min_eq_left (by omega)]
    rw [e1]
    exact Val.mono hsame _ _ _ (hv j hj)
  obtain ⟨m', hle, hw, hn, hν, hok'⟩ := hok.newRow _ T t xs _ (hok.base.alloc hok.base.size _) (fun b hb => (hsame b hb).2) (fun b hb => hheap b (hok.liveH b hb)) (by simp) (fun i b hb => hheap b (hok.out i b hb).2.2.1) hrow hfr (by
    intro a n c' e1
    simp only [Value.slice.injEq, Option.some.injEq] at e1
    obtain ⟨rfl, _, _⟩ := e1
    refine ⟨hok.base.size, by simp, fun hg => ?_, fun hg => ?_, fun i hi => ?_⟩
    · have := hok.liveG _ hg; simp at this
    · have := hok.liveH _ hg; simp at this
    · have := (hok.out i _ hi).2.2.1; simp at this)
  exact ⟨m', .new hle hn rfl, hw, hR.push hfr hle _ hok', (hn _).2 (.inr rfl), hν.symm, _, _, _, rfl⟩

theorem makeSlice_sound (hΓ : TabOk P Γ) (hR : Rel w0 G0 N F m e tm) {T : Nat} {ti tj : TI} (hf : find Γ T = some ti) (hu : P.underlying T = some (.slice ti.elem)) (hj : find Γ ti.elem = some tj) (hpos : 0 < tj.ty.size) (k j : IntKind) {n : Int} (h0 : 0 ≤ n) (hcap : n ≤ capN) (hfr : ¬ m.D e.next) :
    ∃ m' v, (Instr.makeSlice T (.int k n) (.int j n)).run P m.w = .ok v m'.w ∧ Stp m e m' (e.new (.row ti.elem tj.ty (List.replicate n.toNat tj.ty.zero))) ∧ Rel w0 G0 N F m' (e.new (.row ti.elem tj.ty (List.replicate n.toNat tj.ty.zero))) tm ∧ Lv m' (.row e.next) v := by
  have hE := hΓ _ tj hj
  obtain ⟨i, z, cs, hi, hs, hb, hz, hc, ha, hr⟩ := hE.info
  have hsm := hE.small
  have hcl : cs.length = tj.ty.size := by rw [← (hr m).length, zeros_length]
  have hrun := run_make (P := P) m.w T ti.elem i z hu hi hz k j n n h0 (Int.le_refl _) (by
    simp only [capN] at hcap
    have h1 : i.bytes * n.toNat ≤ 1024 * 68719476736 := Nat.mul_le_mul (by omega) (by omega)
    have h2 : ((i.bytes * n.toNat : Nat) : Int) ≤ ((1024 * 68719476736 : Nat) : Int) := Int.ofNat_le.2 h1
    rw [Int.natCast_mul, Int.toNat_of_nonneg h0] at h2
    omega) (by simp only [capN] at hcap; omega)
  have hval : Val m.w m.G tj.ty tj.ty.zero cs := zero_val (hr m)
  obtain ⟨m', hle, hw, hR', hv⟩ := hR.freshRow (T := ti.elem) (t := tj.ty) (xs := List.replicate n.toNat tj.ty.zero) (cur := (madeCells cs.toArray (n.toNat * cs.length)).toList) (c := n.toNat) (by simp) (by simp only [capN] at hcap; simp only [maxLen]; omega) (by simp [size_madeCells, hcl]) (by
    intro q hq
    simp only [List.length_replicate] at hq
    rw [← hcl, madeCells_piece cs (by omega) _ _ hq]
    have e1 : (List.replicate n.toNat tj.ty.zero).getD q tj.ty.zero = tj.ty.zero := by simp [List.getD_eq_getElem?_getD, List.getElem?_replicate, hq]
    rw [e1]
    exact hval) hfr
  refine ⟨m', _, ?_, hle, hR', hv⟩
  rw [hrun, hw, hc, hs, ← hcl]
  simp
end
end Go.Ev
