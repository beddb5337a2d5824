/- What is read of an argument, as a typed value. -/
import Derived.Test.YticlnmiakaelkaaEvJoin
import Derived.OpenShut
import Derived.ChangeArms
set_option linter.unusedSimpArgs false
set_option linter.unusedVariables false
namespace Go.Ev
open Go.RowKit (Below)

def fieldTys (Γ : Tab) : List Field → Ty → Nat → Bool
  | [], .unit, _ => true
  | f :: fs, .pair a b, off => Nat.beq f.offset off && (match find Γ f.type with
    | some tf => tyEq tf.ty a
    | none => false) && fieldTys Γ fs b (off + a.size)
  | _, _, _ => false
def tiDeep (P : Program) (Γ : Tab) (T : Nat) (ti : TI) : Bool := match ti.ty.isAgg with
  | false => true
  | true => match P.underlying T with
    | some (.struct fs) => fieldTys Γ fs.toList ti.ty 0
    | _ => false
def tabDeep (P : Program) (Γ : Tab) : List (Nat × TI) → Bool
  | [] => true
  | (T, ti) :: r => tiDeep P Γ T ti && tabDeep P Γ r
def Deep (P : Program) (Γ : Tab) : Prop := ∀ T ti, find Γ T = some ti → tiDeep P Γ T ti = true
theorem deep_of {P : Program} {Γ : Tab} : ∀ {l : List (Nat × TI)}, tabDeep P Γ l = true → ∀ T ti, find l T = some ti → tiDeep P Γ T ti = true
  | [], _, T, ti, h => by simp [find] at h
  | (U, tu) :: r, h, T, ti, hf => by
    simp only [tabDeep, Bool.and_eq_true] at h
    rw [find_cons] at hf
    by_cases e : U = T
    · rw [if_pos e] at hf
      obtain rfl := Option.some.inj hf
      subst e
      exact h.1
    · rw [if_neg e] at hf
      exact deep_of h.2 T ti hf

/-- x reads as d. -/
def Rd {H : Type} : (t : Ty) → t.den → DataW H → Prop
  | .int k, n, d => d = .lit (.int k n) ∧ (Lit.int k n).wf = true
  | .bool, b, d => d = .lit (.bool b)
  | .str, s, d => d = .lit (.string s) ∧ s.length ≤ maxLen
  | .sl t, xs, d => (d = .nil ∧ xs = []) ∨ ∃ es sp, d = .slice es sp ∧ es.length = xs.length ∧ xs.length ≤ maxLen ∧ ∀ i e, es[i]? = some e → Rd t (xs.getD i t.zero) e
  | .unit, _, d => d = .agg []
  | .pair a b, x, d => ∃ p ps, d = .agg (p :: ps) ∧ Rd a x.1 p ∧ Rd b x.2 (.agg ps)

theorem list_of {α : Type} (d : α) (p : Nat → α → Prop) : ∀ n, (∀ i, i < n → ∃ x, p i x) → ∃ l : List α, l.length = n ∧ ∀ i, i < n → p i (l.getD i d)
  | 0, _ => ⟨[], rfl, fun i hi => absurd hi (by omega)⟩
  | n + 1, h => by
    obtain ⟨l, hl, hp⟩ := list_of d p n fun i hi => h i (by omega)
    obtain ⟨x, hx⟩ := h n (by omega)
    refine ⟨l ++ [x], by simp [hl], fun i hi => ?_⟩
    by_cases hin : i < n
    · have : (l ++ [x]).getD i d = l.getD i d := by simp [List.getD_eq_getElem?_getD, List.getElem?_append_left (show i < l.length by omega)]
      rw [this]
      exact hp i hin
    · have : i = n := by omega
      subst this
      have : (l ++ [x]).getD i d = x := by simp [List.getD_eq_getElem?_getD, ← hl]
      rw [this]
      exact hx

section
variable {H : Type} {enc : TypeId × Value → H} {P : Program} {w : World} {base : Nat} {spare : Nat → Bool} {held : Bool} {Γ : Tab}

theorem cellsOf_eq (hΓ : TabOk P Γ) {T : Nat} {ti : TI} (hf : find Γ T = some ti) : P.cellsOf T = ti.ty.size := by
  obtain ⟨i, z, cs, hi, hs, _⟩ := (hΓ T ti hf).info
  simp [Program.cellsOf, hi, hs]

theorem cells_plain {a : Addr} {n : Nat} {cs : List Value} (h : w.cells? base a n = some cs) (hn : 0 < n) : a.spot = none ∧ a.block < w.heap.size ∧ cs.length = n ∧ CellsAt w a.block a.off cs := by
  obtain ⟨h1, h2, h3⟩ := World.cells?_some h
  have h0 : ∃ v, w.cell? a = some v := by
    have h4 := h3 0 hn
    have e0 : a.add 0 = a := by simp [Addr.add]
    rw [e0] at h4
    exact ⟨cs[0], by rw [h4]; exact List.getElem?_eq_getElem (by omega)⟩
  obtain ⟨v, hv⟩ := h0
  have hsp : a.spot = none := by
    unfold World.cell? at hv
    split at hv
    · split at hv
      · simp at hv
      · rename_i hs
        cases hq : a.spot with
        | none => rfl
        | some s => rw [hq] at hs; simp at hs
    · simp at hv
  refine ⟨hsp, ?_, h2, fun j u hj => ?_⟩
  · unfold World.cell? at hv
    split at hv
    · rename_i hh
      exact heap_lt hh
    · simp at hv
  · have hjn : j < n := by
      have := (List.getElem?_eq_some_iff.1 hj).1
      omega
    have := h3 j hjn
    rw [hj, addr_eta hsp, addr_add] at this
    exact this

theorem trod_val (hΓ : TabOk P Γ) (hD : Deep P Γ) : ∀ (fuel : Nat) (T : Nat) (ti : TI) (cs : List Value) (d : DataW H) (ps : List MemPlace), find Γ T = some ti → DataW.trod enc P w base spare held fuel T cs = some (d, ps) →
    ∃ x : ti.ty.den, Val w (fun b => b < w.heap.size) ti.ty x cs ∧ Rd ti.ty x d
  | 0, T, ti, cs, d, ps, hf, h => by simp [DataW.trod] at h
  | fuel + 1, T, ti, cs, d, ps, hf, h => by
    have hT := hΓ T ti hf
    cases hag : ti.ty.isAgg with
    | true =>
      have hdeep := hD T ti hf
      unfold tiDeep at hdeep
      rw [hag] at hdeep
      simp only at hdeep
      obtain ⟨sd, hu, _, hst⟩ := hT.under
      obtain ⟨fs, rfl, _⟩ := hst hag
      rw [hu] at hdeep
      simp only at hdeep
      obtain ⟨xs, n, hn, hx, hl, hxl, hfld⟩ := DataW.trod_struct hu h
      obtain rfl : fuel = n := by omega
      simp only [Prod.mk.injEq] at hx
      obtain ⟨rfl, _⟩ := hx
      rw [cellsOf_eq hΓ hf] at hl
      -- the fields, one by one
      have key : ∀ (fl : List Field) (t : Ty) (off : Nat) (ys : List (DataW H × List MemPlace)), fieldTys Γ fl t off = true → off + t.size = cs.length → ys.length = fl.length →
          (∀ (i : Nat) (f : Field), fl[i]? = some f → DataW.trod enc P w base spare held fuel f.type ((cs.drop f.offset).take (P.cellsOf f.type)) = ys[i]?) → t.isAgg = true →
          ∃ x : t.den, Val w (fun b => b < w.heap.size) t x (cs.drop off) ∧ Rd t x (.agg (ys.map (·.1))) := by
        intro fl
        induction fl with
        | nil =>
          intro t off ys hft hsz hyl _ _
          cases t <;> simp [fieldTys] at hft
          have : ys = [] := List.eq_nil_of_length_eq_zero (by simpa using hyl)
          subst this
          refine ⟨(), ?_, rfl⟩
          simp only [Val]
          simp only [Ty.size, Nat.add_zero] at hsz
          rw [hsz, List.drop_length]
        | cons f fl ih =>
          intro t off ys hft hsz hyl hfl _
          obtain ⟨a, t2, rfl⟩ : ∃ a t2, t = .pair a t2 := by
            cases t <;> first | (simp [fieldTys] at hft; done) | exact ⟨_, _, rfl⟩
          simp only [fieldTys, Bool.and_eq_true] at hft
          obtain ⟨⟨h1, h2⟩, h3⟩ := hft
          have h1 := Nat.eq_of_beq_eq_true h1
          cases hff : find Γ f.type with
          | none => simp [hff] at h2
          | some tf =>
            simp only [hff] at h2
            have hta := tyEq_eq h2
            cases ys with
            | nil => simp at hyl
            | cons y ys =>
              have h0 := hfl 0 f rfl
              simp only [List.getElem?_cons_zero] at h0
              obtain ⟨dy, py⟩ := y
              obtain ⟨x1, v1, r1⟩ := trod_val hΓ hD fuel f.type tf _ dy py hff h0
              rw [cellsOf_eq hΓ hff] at v1
              have hb : t2.isAgg = true := by
                cases fl with
                | nil => cases t2 <;> simp [fieldTys] at h3 <;> rfl
                | cons g gl => cases t2 <;> simp [fieldTys] at h3 <;> rfl
              obtain ⟨x2, v2, r2⟩ := ih t2 (off + a.size) ys h3 (by simp only [Ty.size] at hsz; omega) (by simpa using hyl) (fun i g hg => by
                have := hfl (i + 1) g (by simpa using hg)
                simpa using this) hb
              subst hta
              refine ⟨(x1, x2), ⟨(cs.drop off).take tf.ty.size, cs.drop (off + tf.ty.size), ?_, ?_, v2⟩, dy, ys.map (·.1), rfl, r1, r2⟩
              · rw [← List.drop_drop, List.take_append_drop]
              · rw [h1] at v1
                exact v1
      obtain ⟨x, hv, hr⟩ := key fs.toList ti.ty 0 xs hdeep (by rw [hl, Nat.zero_add]) (by simpa using hxl) (fun i f hfi => hfld i f (by simpa using hfi)) hag
      exact ⟨x, by simpa using hv, hr⟩
    | false =>
      cases hty : ti.ty with
      | pair a b => rw [hty] at hag; simp [Ty.isAgg] at hag
      | unit => rw [hty] at hag; simp [Ty.isAgg] at hag
      | bool =>
        obtain ⟨b, e1, e2⟩ := DataW.trod_bool (hT.bool hty) h
        simp only [Prod.mk.injEq] at e2
        obtain ⟨rfl, _⟩ := e2
        exact ⟨b, e1, rfl⟩
      | int k =>
        obtain ⟨n, e1, e2, hw⟩ := DataW.trod_int (hT.int k hty) h
        simp only [Prod.mk.injEq] at e2
        obtain ⟨rfl, _⟩ := e2
        exact ⟨n, e1, rfl, hw⟩
      | str =>
        obtain ⟨s, e1, e2, hs⟩ := DataW.trod_string (hT.str hty) h
        simp only [Prod.mk.injEq] at e2
        obtain ⟨rfl, _⟩ := e2
        exact ⟨s.data.toList, ⟨s, e1, rfl⟩, rfl, by rw [← ba_size]; exact hs⟩
      | sl t =>
        obtain ⟨hu, hpos, tj, hj, htj⟩ := hT.sl t hty
        have hcell := cellsOf_eq hΓ hj
        rw [htj] at hcell
        rcases DataW.trod_slice hu h with ⟨e1, e2⟩ | ⟨a, len, cap, els, rest, n, hn, e1, e2, hb, hlc, hcm, hlen, hget, _⟩
        · simp only [Prod.mk.injEq] at e2
          obtain ⟨rfl, _⟩ := e2
          exact ⟨[], ⟨none, 0, 0, e1, rfl, Nat.le_refl _, fun j hj => absurd hj (by simp)⟩, .inl ⟨rfl, rfl⟩⟩
        · obtain rfl : fuel = n := by omega
          simp only [Prod.mk.injEq] at e2
          obtain ⟨rfl, _⟩ := e2
          have some_of : ∀ i, i < len → ∃ c0, w.cells? base (a.add (i * P.cellsOf ti.elem)) (P.cellsOf ti.elem) = some c0 ∧ DataW.trod enc P w base spare held fuel ti.elem c0 = els[i]? := by
            intro i hi
            have hg := hget i hi
            cases hq : w.cells? base (a.add (i * P.cellsOf ti.elem)) (P.cellsOf ti.elem) with
            | none =>
              rw [hq] at hg
              simp only [Option.bind_none] at hg
              rw [List.getElem?_eq_getElem (by omega)] at hg
              cases hg
            | some c0 =>
              rw [hq] at hg
              exact ⟨c0, rfl, hg⟩
          have hel : ∀ i, i < len → ∃ y : t.den, ∃ cs' dy py, a.spot = none ∧ a.block < w.heap.size ∧ els[i]? = some (dy, py) ∧ CellsAt w a.block (a.off + i * t.size) cs' ∧ Val w (fun b => b < w.heap.size) t y cs' ∧ Rd t y dy := by
            intro i hi
            obtain ⟨cs', hcs, hg⟩ := some_of i hi
            have hgi : els[i]? = some els[i] := List.getElem?_eq_getElem (by omega)
            rw [hgi] at hg
            obtain ⟨y, v1, r1⟩ := trod_val hΓ hD fuel ti.elem tj cs' els[i].1 els[i].2 hj hg
            obtain ⟨g1, g2, g3, g4⟩ := cells_plain hcs (by rw [hcell]; exact hpos)
            have hsp : a.spot = none := by
              obtain ⟨c0, hq, _⟩ := some_of 0 (by omega)
              have := (cells_plain hq (by rw [hcell]; exact hpos)).1
              simpa [Addr.add] using this
            subst htj
            rw [addr_eta hsp, addr_add] at g2 g4
            simp only at g2 g4
            rw [hcell] at g4
            exact ⟨y, cs', els[i].1, els[i].2, hsp, g2, hgi, g4, v1, r1⟩
          obtain ⟨ys, hyl, hy⟩ := list_of t.zero (fun i y => ∃ cs' dy py, a.spot = none ∧ a.block < w.heap.size ∧ els[i]? = some (dy, py) ∧ CellsAt w a.block (a.off + i * t.size) cs' ∧ Val w (fun b => b < w.heap.size) t y cs' ∧ Rd t y dy) len hel
          refine ⟨ys, ⟨some a, len, cap, e1, hyl, hlc, fun j hj => ?_⟩, .inr ⟨_, _, rfl, by simp [hlen, hyl], by omega, fun i e he => ?_⟩⟩
          · obtain ⟨cs', dy, py, g1, g2, g3, g4, g5, g6⟩ := hy j (by omega)
            exact ⟨a, cs', rfl, g1, g2, g4, g5⟩
          · have hi : i < len := by
              have := (List.getElem?_eq_some_iff.1 he).1
              simp at this
              omega
            obtain ⟨cs', dy, py, g1, g2, g3, g4, g5, g6⟩ := hy i hi
            rw [List.getElem?_map, g3] at he
            simp only [Option.map_some, Option.some.injEq] at he
            subst he
            exact g6
end
end Go.Ev
