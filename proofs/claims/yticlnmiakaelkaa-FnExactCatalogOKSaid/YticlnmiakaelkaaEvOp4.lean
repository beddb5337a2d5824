/- Operations that make memory; addresses. -/
import Derived.Test.YticlnmiakaelkaaEvOp3
set_option linter.unusedSimpArgs false
set_option linter.unusedVariables false
namespace Go.Ev
open Go.RowKit (Below)

section
variable {P : Program} {w0 : World} {G0 : Nat → Prop} {N : Nat} {F : List (Nat × Obj)} {m : St} {e : Env} {tm : Array Value} {Γ : Tab} {ρ : Type}

theorem alloc_sound (hΓ : TabOk P Γ) (hR : Rel w0 G0 N F m e tm) {T : Nat} {ti : TI} (hf : find Γ T = some ti) (hfr : ¬ m.D e.next) :
    ∃ m' v, (Instr.alloc T true (.tuple #[])).run P m.w = .ok v m'.w ∧ Stp m e m' (e.new (.var (zeros ti.ty []))) ∧ Rel w0 G0 N F m' (e.new (.var (zeros ti.ty []))) tm ∧ Lv m' (.loc e.next 0) v := by
  have hT := hΓ T ti hf
  obtain ⟨i, z, cs, hi, hs, hb, hz, hc, ha, hr⟩ := hT.info
  obtain ⟨m', hle, hw, hn, hβ, hok⟩ := hR.ok.newVar (zeros ti.ty []) cs T (hr m) hfr
  refine ⟨m', .pointer (some ⟨m.w.heap.size, 0, none⟩), ?_, .new hle hn rfl, hR.push hfr hle _ hok, (hn _).2 (.inr rfl), ?_⟩
  · rw [hw]
    simp [Instr.alloc, zeroValue, typeInfo, hi, hz, newVar, newRow, hc]
  · rw [hβ]

theorem box_sound (hR : Rel w0 G0 N F m e tm) {T : Nat} {s : SV} {v : Value} (hs : Sv m s v) (ht : s.isTup = false) (hfr : ¬ m.D e.next) :
    ∃ m' u, (Instr.box T v).run P m.w = .ok u m'.w ∧ Stp m e m' (e.new (.var s.cells)) ∧ Rel w0 G0 N F m' (e.new (.var s.cells)) tm ∧ Lv m' (.loc e.next 0) u := by
  obtain ⟨cs, hc, hr⟩ := hs.cells ht
  obtain ⟨m', hle, hw, hn, hβ, hok⟩ := hR.ok.newVar s.cells cs T hr hfr
  refine ⟨m', .pointer (some ⟨m.w.heap.size, 0, none⟩), ?_, .new hle hn rfl, hR.push hfr hle _ hok, (hn _).2 (.inr rfl), ?_⟩
  · rw [hw]
    simp [Instr.box, newVar, newRow, hc]
  · rw [hβ]

theorem fieldAt_run (hΓ : TabOk P Γ) {T i d : Nat} {ti : TI} (hf : find Γ T = some ti) (hd : nth ti.offs i = some d) (ha : ti.ty.isAgg = true) (w : World) (b o : Nat) :
    (Instr.fieldAt T (.pointer (some ⟨b, o, none⟩)) i).run P w = .ok (.pointer (some ⟨b, o + d, none⟩)) w := by
  have hT := hΓ T ti hf
  obtain ⟨td, hu, hrow, hfs⟩ := hT.under
  obtain ⟨fs, rfl, hok⟩ := hfs ha
  obtain ⟨f, j, hf1, hf2, hf3, hf4, hf5⟩ := fieldsOk_get hok i d hd
  have hf1' : fs[i]? = some f := by simpa using hf1
  simp [Instr.fieldAt, run_underlying hu, hf1', Instr.sureAddr, fieldPlace, sizeOf, typeInfo, hf3, hf5, Addr.add_mid, hf2]

/-- The element type's row of the table. -/
theorem elem_info (hΓ : TabOk P Γ) {T : Nat} {ti : TI} (hf : find Γ T = some ti) {t : Ty} (ht : ti.ty = .sl t) :
    P.underlying T = some (.slice ti.elem) ∧ 0 < t.size ∧ ∃ tj, find Γ ti.elem = some tj ∧ tj.ty = t ∧ ∃ i z cs, P.info? ti.elem = some i ∧ i.size = t.size ∧ i.bytes ≤ 1024 ∧ i.zero = some z ∧ z.cells = List.toArray cs ∧ (∀ m, R2 (Lv m) (zeros t []) cs) := by
  obtain ⟨h1, h2, tj, h3, h4⟩ := (hΓ T ti hf).sl t ht
  have hE := hΓ _ tj h3
  obtain ⟨i, z, cs, hi, hs, hb, hz, hc, ha, hr⟩ := hE.info
  subst h4
  exact ⟨h1, h2, tj, h3, rfl, i, z, cs, hi, hs, by rw [hb]; exact hE.small, hz, hc, hr⟩

theorem addr_add (b o n : Nat) : (⟨b, o, none⟩ : Addr).add n = ⟨b, o + n, none⟩ := Addr.add_mid b o n
theorem addr_eta {a : Addr} (h : a.spot = none) : a = ⟨a.block, a.off, none⟩ := by
  cases a; simp only at h; subst h; rfl

theorem indexAt_run (hΓ : TabOk P Γ) {T : Nat} {ti : TI} (hf : find Γ T = some ti) {t : Ty} (ht : ti.ty = .sl t) (w : World) {a : Addr} (hs : a.spot = none) (len cap : Nat) (k : IntKind) (i : Int) (h0 : 0 ≤ i) (h1 : i < len) :
    (Instr.indexAt T (.slice (some a) len cap) (.int k i)).run P w = .ok (.pointer (some ⟨a.block, a.off + i.toNat * t.size, none⟩)) w := by
  obtain ⟨hu, _, tj, _, _, inf, z, cs, hi, hsz, _⟩ := elem_info hΓ hf ht
  rw [addr_eta hs]
  simp [Instr.indexAt, run_underlying hu, asIntOf, h0, h1, sizeOf, typeInfo, hi, hsz, addr_add]

theorem indexAddr_sound (hΓ : TabOk P Γ) (hR : Rel w0 G0 N F m e tm) {T : Nat} {ti : TI} (hf : find Γ T = some ti) {x : V} {v : Value} {k : IntKind} {n : Int} {K : SV → Option ρ} {r : ρ}
    (h : evIndexAddr ti.ty x n e K = some r) (hx : Lv m x v) : ∃ sv z, (Instr.indexAt T v (.int k n)).run P m.w = .ok z m.w ∧ Sv m sv z ∧ K sv = some r := by
  -- a view
  have view : ∀ (t : Ty) (xs : List t.den), ti.ty = .sl t → Val m.w m.G (.sl t) xs [v] → chk (decide (0 ≤ n)) (chk (decide (n < xs.length)) (K (.one (.el t (xs.getD n.toNat t.zero) 0)))) = some r →
      ∃ sv z, (Instr.indexAt T v (.int k n)).run P m.w = .ok z m.w ∧ Sv m sv z ∧ K sv = some r := by
    intro t xs ht hv h
    obtain ⟨h0, h⟩ := chk_dec h
    obtain ⟨h1, h⟩ := chk_dec h
    obtain ⟨A, len, c, e1, hl, hc, hel⟩ := hv
    simp only [List.cons.injEq, and_true] at e1
    subst e1
    obtain ⟨a, cs', rfl, hs, hg, hcs, hval⟩ := hel n.toNat (by omega)
    exact ⟨.one (.el t (xs.getD n.toNat t.zero) 0), _, indexAt_run hΓ hf ht m.w hs len c k n h0 (by omega), ⟨_, _, cs', rfl, hR.ok.gh _ hg, hcs, hval⟩, h⟩
  unfold evIndexAddr at h
  cases x with
  | sl t xs =>
    simp only at h
    cases ht : tyEq ti.ty (.sl t) with
    | false => simp [ht] at h
    | true =>
      simp only [ht] at h
      exact view t xs (tyEq_eq ht) hx h
  | row id =>
    obtain ⟨hid, rfl, _⟩ := hx
    simp only at h
    cases ho : e.obj id with
    | none => simp [ho] at h
    | some o =>
      have hob := (hR.obj id _ ho).2
      cases o with
      | var vs => simp [ho] at h
      | frow t xs =>
        simp only [ho] at h
        cases ht : tyEq ti.ty (.sl t) with
        | false => simp [ht] at h
        | true =>
          simp only [ht] at h
          exact view t xs (tyEq_eq ht) hob h
      | row U t xs =>
        simp only [ho] at h
        cases ht : tyEq ti.ty (.sl t) with
        | false => simp [ht] at h
        | true =>
          simp only [ht] at h
          obtain ⟨h0, h⟩ := chk_dec h
          obtain ⟨h1, h⟩ := chk_dec h
          rcases hob with ⟨_, rfl⟩ | ⟨b, c, cs, e1, hh, _⟩
          · simp at h1; omega
          · have hrun := indexAt_run hΓ hf (tyEq_eq ht) m.w (a := ⟨b, 0, none⟩) rfl xs.length c k n h0 h1
            rw [← e1] at hrun
            refine ⟨.one (.rel id t.size n.toNat 0), _, hrun, ⟨hid, b, xs.length, c, e1, by omega, by simp⟩, h⟩
  | _ => simp at h

theorem len_sound (hΓ : TabOk P Γ) (hR : Rel w0 G0 N F m e tm) {T : Nat} {ti : TI} (hf : find Γ T = some ti) {x : V} {v : Value} {n : Nat} (h : lenOf e ti.ty x = some n) (hx : Lv m x v) (ts : Array TypeId) (hts : ts[0]? = some T) (ty : TypeId) :
    (Builtin.len_ ts ty #[v]).run P m.w = .ok (.int .i64 n) m.w := by
  have hT := hΓ T ti hf
  have key : ∀ t, ti.ty = .sl t → ∀ A c, v = .slice A n c → (Builtin.len_ ts ty #[v]).run P m.w = .ok (.int .i64 n) m.w := by
    intro t ht A c hv
    subst hv
    obtain ⟨h1, _⟩ := hT.sl t ht
    simp [Builtin.len_, hts, run_underlying h1, goInt]
  unfold lenOf at h
  cases hty : ti.ty with
  | str =>
    rw [hty] at h
    cases x with
    | s y =>
      simp only [Option.some.injEq] at h
      obtain ⟨s, rfl, rfl⟩ := hx
      have hu := hT.str hty
      subst h
      simp only [Builtin.len_, hts, Sem.run_bind, run_underlying hu, Result.andThen_ok, List.getElem?_toArray, List.getElem?_cons_zero, goInt, Sem.run_pure, ba_size]
    | _ => simp at h
  | sl t =>
    rw [hty] at h
    cases x with
    | sl u xs =>
      simp only [Option.some.injEq] at h
      obtain ⟨A, k, c, e1, hl, _⟩ := hx
      simp only [List.cons.injEq, and_true] at e1
      exact key t hty A c (by rw [e1]; congr 1; omega)
    | nil =>
      simp only [Option.some.injEq] at h
      simp only [Lv] at hx
      exact key t hty none 0 (by rw [hx, ← h])
    | row id =>
      obtain ⟨hid, rfl, A0, n0, c0, e0⟩ := hx
      simp only at h
      cases ho : e.obj id with
      | none => simp [ho] at h
      | some o =>
        have hob := (hR.obj id _ ho).2
        cases o with
        | var vs => simp [ho] at h
        | frow u xs =>
          simp only [ho, Option.some.injEq] at h
          obtain ⟨A, k, c, e1, hl, _⟩ := hob
          simp only [List.cons.injEq, and_true] at e1
          exact key t hty A c (by rw [e1]; congr 1; omega)
        | row U u xs =>
          simp only [ho, Option.some.injEq] at h
          rcases hob with ⟨e1, rfl⟩ | ⟨b, c, cs, e1, _⟩
          · exact key t hty none 0 (by rw [e1, ← h]; rfl)
          · exact key t hty _ c (by rw [e1, ← h])
    | _ => simp at h
  | _ => rw [hty] at h; simp at h

theorem index_sound (hΓ : TabOk P Γ) {T : Nat} {ti : TI} (hf : find Γ T = some ti) (ht : ti.ty = .str) {s : ByteArray} {k : IntKind} {n : Int} (h0 : 0 ≤ n) (h1 : n < s.data.toList.length) (w : World) :
    (Instr.index T (.string s) (.int k n)).run P w = .ok (.int .u8 ((s.data.toList.getD n.toNat 0).toNat : Nat)) w := by
  have hu := (hΓ T ti hf).str ht
  have hlt : n.toNat < s.size := by rw [ba_size]; omega
  have hlt' : n.toNat < s.data.toList.length := by omega
  have hg : s[n.toNat]? = some (s.data.toList.getD n.toNat 0) := by
    rw [ByteArray.getElem?_lt' s _ hlt, List.getD_eq_getElem?_getD, List.getElem?_eq_getElem hlt']
    rfl
  simp only [Instr.index, asIntOf, Sem.run_bind, Sem.run_pure, Result.andThen_ok, run_underlying hu, h0, if_true, hg]
end
end Go.Ev
