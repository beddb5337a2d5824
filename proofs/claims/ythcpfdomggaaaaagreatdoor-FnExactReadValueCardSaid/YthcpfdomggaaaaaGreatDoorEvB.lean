/- The evaluator and its soundness, part 2. -/
import Derived.Test.YthcpfdomggaaaaaGreatDoorEvA
import Derived.Tactics
import Derived.Laws.Strings
import Derived.Laws.StructEq
import Derived.Laws.CopyRow
import Derived.Lib.Strings
import Derived.Great.FillDense
import Derived.Laws.Tables
import Derived.Lib.ConvBytes
import Derived.Lib.MinMax
import Derived.Laws.BytesArg
import Derived.Shelf.SlSortFuncK.RowK2
import Derived.Below
import Derived.Calls
section
/- Operations that only reckon. -/
set_option linter.unusedSimpArgs false
set_option linter.unusedVariables false
namespace Go.Ev
open Go.RowKit (Below)

section
variable {P : Program} {w0 : World} {G0 : Nat → Prop} {N : Nat} {F : List (Nat × Obj)} {m : St} {e : Env} {a : Act} {Γ : Tab}

theorem wp_value {o : Oper} {w w' : World} {v : Value} {next : Act → World → Prop} {Q : Exit → Act → World → Prop}
    (h : (execOp a.eval o).run P w = .ok (.value v) w') (hn : next (a.put o.dst v) w') : o.wp P a w next Q := by
  unfold Oper.wp; rw [h]; exact hn
theorem wp_skip' {o : Oper} {w w' : World} {next : Act → World → Prop} {Q : Exit → Act → World → Prop}
    (h : (execOp a.eval o).run P w = .ok .skip w') (hn : next (a.put o.dst undef) w') : o.wp P a w next Q := by
  unfold Oper.wp; rw [h]; exact hn

theorem constV_lv : ∀ {v : Value} {x : V}, constV v = some x → Lv m x v := by
  intro v x h
  cases v with
  | slice A n c =>
    cases A with
    | some A => simp [constV] at h
    | none =>
      cases n with
      | succ n => simp [constV] at h
      | zero =>
        cases c with
        | succ c => simp [constV] at h
        | zero => simp only [constV, Option.some.injEq] at h; subst h; rfl
  | int k n => simp only [constV, Option.some.injEq] at h; subst h; rfl
  | bool b => simp only [constV, Option.some.injEq] at h; subst h; rfl
  | string s => simp only [constV, Option.some.injEq] at h; subst h; exact ⟨s, rfl, rfl⟩
  | _ => simp [constV] at h
theorem constVs_lv : ∀ {l : List Value} {x : List V}, constVs l = some x → R2 (Lv m) x l
  | [], x, h => by simp only [constVs, Option.some.injEq] at h; subst h; trivial
  | v :: r, x, h => by
    simp only [constVs] at h
    cases h1 : constV v with
    | none => simp [h1] at h
    | some y =>
      cases h2 : constVs r with
      | none => simp [h1, h2] at h
      | some l =>
        simp only [h1, h2, Option.some.injEq] at h
        subst h
        exact ⟨constV_lv h1, constVs_lv h2⟩
theorem constSV_sv {v : Value} {s : SV} (h : constSV v = some s) : Sv m s v := by
  by_cases ha : ∃ cs, v = .agg cs
  · obtain ⟨cs, rfl⟩ := ha
    simp only [constSV] at h
    cases h1 : constVs cs.toList with
    | none => simp [h1] at h
    | some l =>
      simp only [h1, Option.some.injEq] at h
      subst h
      exact ⟨cs.toList, by simp, constVs_lv h1⟩
  · have h' : (match constV v with
      | some x => some (SV.one x)
      | none => none) = some s := by
      cases v <;> first | exact h | exact absurd ⟨_, rfl⟩ ha
    cases h1 : constV v with
    | none => simp [h1] at h'
    | some x =>
      simp only [h1, Option.some.injEq] at h'
      subst h'
      exact constV_lv h1

theorem val_sv (hR : Rel w0 G0 N F m e a.tmps) {o : Operand} {s : SV} (h : e.val o = some s) : Sv m s (a.eval o) := by
  cases o with
  | tmp t =>
    obtain ⟨v, hv, hs⟩ := hR.slots t s h
    have : a.eval (.tmp t) = v := by simp [Act.eval, Array.getD_eq_getD_getElem?, hv]
    rw [this]; exact hs
  | const v => exact constSV_sv h
  | func f =>
    simp only [Env.val, Option.some.injEq] at h
    subst h
    exact ⟨[], rfl, trivial⟩
  | global g => simp [Env.val] at h
theorem one_lv (hR : Rel w0 G0 N F m e a.tmps) {o : Operand} {x : V} (h : e.one o = some x) : Lv m x (a.eval o) := by
  unfold Env.one at h
  cases hv : e.val o with
  | none => simp [hv] at h
  | some s =>
    have := val_sv hR hv
    cases s with
    | one y => simp only [hv, Option.some.injEq] at h; subst h; exact this
    | agg l => simp [hv] at h
    | tup l => simp [hv] at h
theorem chk_some {ρ : Type} {b : Bool} {x : Option ρ} {r : ρ} (h : chk b x = some r) : b = true ∧ x = some r := by
  cases b with
  | true => exact ⟨rfl, h⟩
  | false => simp [chk, br] at h
theorem chk_dec {ρ : Type} {p : Prop} [Decidable p] {x : Option ρ} {r : ρ} (h : chk (decide p) x = some r) : p ∧ x = some r := by
  obtain ⟨h1, h2⟩ := chk_some h
  exact ⟨of_decide_eq_true h1, h2⟩
theorem tyEq_eq {a b : Ty} (h : tyEq a b = true) : a = b := by
  unfold tyEq at h
  cases hd : Ty.decEq a b with
  | isTrue e => exact e
  | isFalse e => rw [hd] at h; simp at h

/-! ### what binary operations come to -/
theorem toList_eq (s : ByteArray) : s.toList = s.data.toList := ByteArray.toList_eq s

theorem evInt_sound {ρ : Type} {op : BinOp} {k : IntKind} {x y : Int} {K : SV → Option ρ} {r : ρ} (h : evInt op k x y K = some r) (t : TypeId) (w : World) :
    ∃ sv v, (binOp op t (.int k x) (.int k y)).run P w = .ok v w ∧ Sv m sv v ∧ K sv = some r := by
  have kk : ∀ {z : Int}, Sv m (.one (.i k z)) (.int k z) := fun {z} => rfl
  have bb : ∀ {z : Bool}, Sv m (.one (.b z)) (.bool z) := fun {z} => rfl
  cases op <;> simp only [evInt] at h
  · refine ⟨_, _, ?_, kk, h⟩; simp [binOp_add, Op.intArith]
  · refine ⟨_, _, ?_, kk, h⟩; simp [binOp_sub, Op.intArith]
  · refine ⟨_, _, ?_, kk, h⟩; simp [binOp_mul, Op.intArith]
  · obtain ⟨h1, h2⟩ := chk_some h
    have hy : ¬ y = 0 := by simpa using h1
    refine ⟨_, _, ?_, kk, h2⟩; simp [binOp_quo, Op.intDiv, hy]
  · obtain ⟨h1, h2⟩ := chk_some h
    have hy : ¬ y = 0 := by simpa using h1
    refine ⟨_, _, ?_, kk, h2⟩; simp [binOp_rem, Op.intDiv, hy]
  · refine ⟨_, _, ?_, kk, h⟩; simp [binOp_and, intBits_and]
  · refine ⟨_, _, ?_, kk, h⟩; simp [binOp_or, intBits_or]
  · refine ⟨_, _, ?_, kk, h⟩; simp [binOp_xor, intBits_xor]
  · simp at h
  · simp at h
  · refine ⟨_, _, ?_, kk, h⟩; simp [binOp_andNot, intBits_andNot]
  · refine ⟨_, _, ?_, bb, h⟩; simp [binOp_eql]
  · refine ⟨_, _, ?_, bb, h⟩; simp [binOp_neq]
  · refine ⟨_, _, ?_, bb, h⟩; simp [binOp_lss]
  · refine ⟨_, _, ?_, bb, h⟩; simp [binOp_leq]
  · refine ⟨_, _, ?_, bb, h⟩; simp [binOp_gtr]
  · refine ⟨_, _, ?_, bb, h⟩; simp [binOp_geq]

theorem ba_size (s : ByteArray) : s.size = s.data.toList.length := by
  rw [Array.length_toList]; rfl
theorem ba_append (s t : ByteArray) : (s ++ t).data.toList = s.data.toList ++ t.data.toList := by
  rw [ByteArray.data_append, Array.toList_append]

theorem evStr_sound {ρ : Type} {op : BinOp} {s t : ByteArray} {K : SV → Option ρ} {r : ρ} (h : evStr op s.data.toList t.data.toList K = some r) (T : TypeId) (w : World) :
    ∃ sv v, (binOp op T (.string s) (.string t)).run P w = .ok v w ∧ Sv m sv v ∧ K sv = some r := by
  have bb : ∀ {z : Bool}, Sv m (.one (.b z)) (.bool z) := fun {z} => rfl
  cases op <;> simp only [evStr] at h
  · obtain ⟨h1, h2⟩ := chk_dec h
    refine ⟨.one (.s (s.data.toList ++ t.data.toList)), .string (s ++ t), ?_, ⟨s ++ t, rfl, ba_append s t⟩, h2⟩
    have hs : ¬ (((s.size + t.size : Nat) : Int) > IntKind.i64.max) := by
      rw [ba_size, ba_size, IntKind.max_i64]
      simp only [capN] at h1
      omega
    simp only [binOp, Op.stringOp]
    rw [if_neg hs]
    rfl
  · simp at h
  · simp at h
  · simp at h
  · simp at h
  · simp at h
  · simp at h
  · simp at h
  · simp at h
  · simp at h
  · simp at h
  · refine ⟨_, _, ?_, bb, h⟩; simp [binOp, Op.stringOp, toList_eq]
  · refine ⟨_, _, ?_, bb, h⟩; simp [binOp, Op.stringOp, toList_eq]
  · refine ⟨_, _, ?_, bb, h⟩; simp [binOp, Op.stringOp, toList_eq]
  · refine ⟨_, _, ?_, bb, h⟩; simp [binOp, Op.stringOp, toList_eq]
  · refine ⟨_, _, ?_, bb, h⟩; simp [binOp, Op.stringOp, toList_eq]
  · refine ⟨_, _, ?_, bb, h⟩; simp [binOp, Op.stringOp, toList_eq]

theorem shl_run (k j : IntKind) (x y : Int) (h : 0 ≤ y) (t : TypeId) (w : World) : (binOp .shl t (.int k x) (.int j y)).run P w = .ok (.int k (k.wrap (x * 2 ^ (min y.toNat k.bits)))) w := by
  have : ¬ y < 0 := by omega
  simp [binOp, Op.shift, this]
theorem shr_run (k j : IntKind) (x y : Int) (h : 0 ≤ y) (t : TypeId) (w : World) : (binOp .shr t (.int k x) (.int j y)).run P w = .ok (.int k (x.fdiv (2 ^ (min y.toNat k.bits)))) w := by
  have : ¬ y < 0 := by omega
  simp [binOp, Op.shift, this]

theorem evBin_sound {ρ : Type} (hΓ : TabOk P Γ) {T : Nat} {ti : TI} (hf : find Γ T = some ti) (h00 : (ti.ty.isAgg && !Nat.beq ti.elem 0) = false) {op : BinOp} {x y : SV} {u v : Value} {K : SV → Option ρ} {r : ρ} (h : evBin ti.ty op x y K = some r) (hx : Sv m x u) (hy : Sv m y v) (o1 o2 : Operand) (w : World) :
    ∃ sv z, (do eqGuard op T o1 o2 u v; binOp op T u v : Sem Value).run P w = .ok z w ∧ Sv m sv z ∧ K sv = some r := by
  have hT : ti.ty = .bool → P.underlying T = some .bool := fun ht => (hΓ T ti hf).bool ht
  cases x with
  | tup l => simp [evBin] at h
  | agg l =>
    cases y with
    | tup l' => simp [evBin] at h
    | one y => simp [evBin] at h
    | agg l' =>
      obtain ⟨cs, e1, r1⟩ := hx
      obtain ⟨ds, e2, r2⟩ := hy
      subst e1; subst e2
      simp only [evBin] at h
      cases hc : (ti.ty.isAgg && ti.ty.flat) with
      | false => rw [hc] at h; simp at h
      | true =>
        rw [hc] at h
        obtain ⟨ha, hfl⟩ := Bool.and_eq_true_iff.1 hc
        have h01 : ti.elem = 0 := by
          rw [ha] at h00
          simpa using h00
        have no : ∀ {i o}, find ([] : List (Nat × Obj)) i = some o → False := fun h => by simp [find] at h
        have bb : ∀ {z : Bool}, Sv m (.one (.b z)) (.bool z) := fun {z} => rfl
        cases hd1 : decCells false [] ti.ty l with
        | none => cases op <;> simp [hd1] at h
        | some a =>
          cases hd2 : decCells false [] ti.ty l' with
          | none => cases op <;> simp [hd1, hd2] at h
          | some b =>
            have v1 := decCells_val (m := m) (os := []) (st := false) (Gd := m.G) (fun i o h => (no h).elim) (fun b hb => hb) (fun _ i T u xs a n c h => (no h).elim) hd1 r1
            have v2 := decCells_val (m := m) (os := []) (st := false) (Gd := m.G) (fun i o h => (no h).elim) (fun b hb => hb) (fun _ i T u xs a n c h => (no h).elim) hd2 r2
            have key := evEq_run hΓ hf h01 ha hfl v1 v2 o1 o2 w op
            cases op <;> simp only [hd1, hd2] at h <;> first
              | (simp at h; done)
              | exact ⟨_, _, key.1 rfl, bb, h⟩
              | exact ⟨_, _, key.2 rfl, bb, h⟩
  | one x =>
    cases y with
    | tup l => cases x <;> simp [evBin] at h
    | agg l => cases x <;> simp [evBin] at h
    | one y =>
      cases x with
      | i k n =>
        cases y with
        | i j n' =>
          simp only [Sv, Lv] at hx hy
          subst hx; subst hy
          simp only [eqGuard_at_int, pure_bind]
          have kk : ∀ {z : Int}, Sv m (.one (.i k z)) (.int k z) := fun {z} => rfl
          by_cases h1 : op = .shl
          · subst h1
            simp only [evBin] at h
            obtain ⟨h1, h2⟩ := chk_dec h
            exact ⟨_, _, shl_run k j n n' h1 T w, kk, h2⟩
          · by_cases h2 : op = .shr
            · subst h2
              simp only [evBin] at h
              obtain ⟨h1, h2⟩ := chk_dec h
              exact ⟨_, _, shr_run k j n n' h1 T w, kk, h2⟩
            · have h' : (match kEq k j with
                | true => evInt op k n n' K
                | false => none) = some r := by
                cases op <;> first | exact h | exact absurd rfl h1 | exact absurd rfl h2
              cases hk : kEq k j with
              | false => simp [hk] at h'
              | true =>
                simp only [hk] at h'
                have := kEq_eq hk
                subst this
                exact evInt_sound h' T w
        | _ => simp [evBin] at h
      | b n =>
        cases y with
        | b n' =>
          simp only [Sv, Lv] at hx hy
          subst hx; subst hy
          simp only [eqGuard_at_bool, pure_bind]
          have bb : ∀ {z : Bool}, Sv m (.one (.b z)) (.bool z) := fun {z} => rfl
          cases hty : ti.ty <;> rw [hty] at h <;> simp only [evBin] at h <;> try (simp at h; done)
          have hu := run_equal_bool (P := P) w T n n' (hT hty)
          cases op <;> simp only at h <;> first
            | (simp at h; done)
            | (refine ⟨_, _, ?_, bb, h⟩; simp only [binOp, Sem.run_bind, hu]; rfl)
        | _ => simp [evBin] at h
      | s n =>
        cases y with
        | s n' =>
          obtain ⟨a, ha, hl⟩ := hx
          obtain ⟨b, hb, hl'⟩ := hy
          subst ha; subst hb; subst hl; subst hl'
          simp only [eqGuard_at_string, pure_bind]
          simp only [evBin] at h
          exact evStr_sound h T w
        | _ => simp [evBin] at h
      | _ => cases y <;> simp [evBin] at h

theorem evUn_sound {ρ : Type} {op : UnOp} {x : V} {u : Value} {K : SV → Option ρ} {r : ρ} (h : evUn op x K = some r) (hx : Lv m x u) (w : World) :
    ∃ sv z, (Op.unary op u).run P w = .ok z w ∧ Sv m sv z ∧ K sv = some r := by
  cases op <;> cases x <;> simp only [evUn] at h <;> try (simp at h; done)
  · rename_i k n
    simp only [Lv] at hx
    subst hx
    have kk : ∀ {z : Int}, Sv m (.one (.i k z)) (.int k z) := fun {z} => rfl
    exact ⟨_, _, by simp only [Op.unary, Op.intArith]; rfl, kk, h⟩
  · rename_i b
    simp only [Lv] at hx
    subst hx
    have bb : ∀ {z : Bool}, Sv m (.one (.b z)) (.bool z) := fun {z} => rfl
    exact ⟨_, _, by simp only [Op.unary]; rfl, bb, h⟩
end
end Go.Ev
end

section
/- Loads and stores. -/
set_option linter.unusedSimpArgs false
set_option linter.unusedVariables false
namespace Go.Ev
open Go.RowKit (Below)

theorem cells_of_heap {w : World} {b : Nat} {cs : List Value} {T : Nat} {fr : Nat × Nat} (h : w.heap[b]? = some (.cells cs.toArray T fr)) : CellsAt w b 0 cs := by
  intro j v hv
  simp only [World.cell?, h, Nat.zero_add]
  simpa using hv
theorem cellsAt_drop {w : World} {b o : Nat} {cs : List Value} (h : CellsAt w b o cs) (n : Nat) : CellsAt w b (o + n) (cs.drop n) := by
  intro j v hv
  rw [List.getElem?_drop] at hv
  have := h (n + j) v hv
  rwa [Nat.add_assoc]
theorem cellsAt_take {w : World} {b o : Nat} {cs : List Value} (h : CellsAt w b o cs) (n : Nat) : CellsAt w b o (cs.take n) := by
  intro j v hv
  rw [List.getElem?_take] at hv
  split at hv
  · exact h j v hv
  · simp at hv
theorem notAgg_size {t : Ty} (h : t.isAgg = false) : t.size = 1 := by
  cases t <;> simp [Ty.isAgg] at h <;> rfl
theorem len1 {α : Type} {l : List α} (h : l.length = 1) : ∃ a, l = [a] := by
  match l, h with
  | [a], _ => exact ⟨a, rfl⟩

section
variable {P : Program} {Γ : Tab} {T : Nat} {ti : TI}

theorem run_load' (hT : TyOk P Γ T ti) {w : World} {b o : Nat} {cs : List Value} (hc : CellsAt w b o cs) (hl : cs.length = ti.ty.size) :
    ∃ z, (Instr.loadAt T (.pointer (some ⟨b, o, none⟩))).run P w = .ok z w ∧ AsVal ti.ty cs z := by
  obtain ⟨d, hd, hrow, _⟩ := hT.under
  obtain ⟨i, z, zs, hi, hs, _⟩ := hT.info
  cases ha : ti.ty.isAgg with
  | true =>
    refine ⟨.agg cs.toArray, run_loadAt_mid w b o T cs d hc hd (by rw [hrow, ha]) (by simp [hi, hs, hl]), by simp [AsVal, ha]⟩
  | false =>
    obtain ⟨v, rfl⟩ := len1 (by rw [hl]; exact notAgg_size ha)
    refine ⟨v, ?_, by simp [AsVal, ha]⟩
    have hcell := hc 0 v rfl
    have hagg : (isAgg T).run P w = .ok false w := by
      unfold isAgg
      rw [Sem.run_bind, run_underlying hd w]
      rw [ha] at hrow
      cases d <;> simp_all [TypeDesc.isRow]
    simp only [Nat.add_zero] at hcell
    simp only [Instr.loadAt, Instr.sureAddr, loadVar, Sem.run_bind, Sem.run_pure, Result.andThen_ok, hagg, Bool.false_eq_true, if_false, run_load, hcell]

theorem run_store' (hT : TyOk P Γ T ti) {w : World} {b o : Nat} {cur : Array Value} {U : Nat} (hh : w.heap[b]? = some (.cells cur U (0, 0))) {v : Value} {vs : List Value} (hv : v.cells = vs.toArray)
    (hl : vs.length = ti.ty.size) (hfit : o + vs.length ≤ cur.size) (h1 : ∀ u ∈ vs, u.oneCell' = true) :
    (Instr.storeAt T (.pointer (some ⟨b, o, none⟩)) v).run P w = .ok () (w.setRow b (cur.toList.take o ++ vs ++ cur.toList.drop (o + vs.length)).toArray) := by
  obtain ⟨i, z, zs, hi, hs, _⟩ := hT.info
  have hst := run_storeCells_at P b o U vs 0 cur w hh (by simpa using hfit) h1
  simp only [Nat.add_zero] at hst
  have e : ¬ vs.length ≠ i.size := by rw [hs, hl]; simp
  simp only [Instr.storeAt, Instr.sureAddr, storeVar, sizeOf, typeInfo, Sem.run_bind, Sem.run_pure, Result.andThen_ok, run_program, hi, hv, List.size_toArray, e, if_false, hst]
end

section
variable {P : Program} {w0 : World} {G0 : Nat → Prop} {N : Nat} {F : List (Nat × Obj)} {m : St} {e : Env} {tm : Array Value} {Γ : Tab} {ρ : Type}

theorem load_sound (hΓ : TabOk P Γ) (hR : Rel w0 G0 N F m e tm) {T : Nat} {x : V} {v : Value} {K : SV → Env → Option ρ} {r : ρ} (h : evLoad Γ T x e K = some r) (hx : Lv m x v) :
    ∃ sv z, (Instr.loadAt T v).run P m.w = .ok z m.w ∧ Sv m sv z ∧ K sv e = some r := by
  unfold evLoad at h
  cases hf : find Γ T with
  | none => simp [hf] at h
  | some ti =>
    simp only [hf] at h
    have hT := hΓ T ti hf
    -- one lemma for all three
    have key : ∀ (b o : Nat) (l : List V) (cs : List Value), CellsAt m.w b o cs → R2 (Lv m) l cs → ∀ s, Nat.ble ti.ty.size (lenN l) = true → asSV ti.ty (takeN ti.ty.size l) = some s →
        ∃ z, (Instr.loadAt T (.pointer (some ⟨b, o, none⟩))).run P m.w = .ok z m.w ∧ Sv m s z := by
      intro b o l cs hc hl s hn hs
      have hn' : ti.ty.size ≤ l.length := by rw [← lenN_eq]; exact Nat.le_of_ble_eq_true hn
      obtain ⟨z, hz, ha⟩ := run_load' hT (cellsAt_take hc ti.ty.size) (by rw [List.length_take, ← hl.length]; omega)
      rw [takeN_eq] at hs
      exact ⟨z, hz, asSV_sv hs (hl.take _) ha⟩
    cases x with
    | loc id off =>
      obtain ⟨hid, rfl⟩ := hx
      simp only at h
      cases ho : e.obj id with
      | none => simp [ho] at h
      | some o =>
        cases o with
        | var vs =>
          simp only [ho] at h
          obtain ⟨cs, U, hh, hr⟩ := (hR.obj id _ ho).2
          cases hb : Nat.ble ti.ty.size (lenN (dropN off vs)) with
          | false => simp [hb] at h
          | true =>
            simp only [hb] at h
            cases hs : asSV ti.ty (takeN ti.ty.size (dropN off vs)) with
            | none => simp [hs] at h
            | some s =>
              simp only [hs] at h
              rw [dropN_eq] at hb hs
              have hc := cellsAt_drop (cells_of_heap hh) off
              rw [Nat.zero_add] at hc
              obtain ⟨z, hz, hv⟩ := key _ _ _ _ hc (hr.drop off) s hb hs
              exact ⟨s, z, hz, hv, h⟩
        | _ => simp [ho] at h
    | el t y off =>
      obtain ⟨b, o, cs, rfl, hH, hc, hv⟩ := hx
      simp only at h
      cases hb : Nat.ble ti.ty.size (lenN (dropN off (enc t y []))) with
      | false => simp [hb] at h
      | true =>
        simp only [hb] at h
        cases hs : asSV ti.ty (takeN ti.ty.size (dropN off (enc t y []))) with
        | none => simp [hs] at h
        | some s =>
          simp only [hs] at h
          rw [dropN_eq] at hb hs
          obtain ⟨z, hz, hv⟩ := key _ _ _ _ (cellsAt_drop hc off) (hv.enc.drop off) s hb hs
          exact ⟨s, z, hz, hv, h⟩
    | rel id sz j off =>
      obtain ⟨hid, b, n, c, hν, hj, rfl⟩ := hx
      simp only at h
      cases ho : e.obj id with
      | none => simp [ho] at h
      | some o =>
        cases o with
        | row U t xs =>
          simp only [ho] at h
          have hob := (hR.obj id _ ho).2
          cases hsz : Nat.beq sz t.size with
          | false => simp [hsz] at h
          | true =>
            have hsz' := Nat.eq_of_beq_eq_true hsz
            subst hsz'
            generalize hy : xs.getD j t.zero = y at h
            cases hb : Nat.ble ti.ty.size (lenN (dropN off (enc t y []))) with
            | false => simp [hsz, hb] at h
            | true =>
              simp only [hsz, hb] at h
              cases hs : asSV ti.ty (takeN ti.ty.size (dropN off (enc t y []))) with
              | none => simp [hs] at h
              | some s =>
                simp only [hs] at h
                rw [dropN_eq] at hb hs
                rcases hob with ⟨e1, _⟩ | ⟨b', c', cs, e1, hh, h1, h2, h3, hx⟩
                · rw [hν] at e1; simp at e1
                · rw [hν] at e1
                  simp only [Value.slice.injEq, Option.some.injEq, Addr.mk.injEq, and_true] at e1
                  obtain ⟨rfl, rfl, rfl⟩ := e1
                  obtain ⟨cs', hc, hv⟩ := hx j hj
                  rw [hy] at hv
                  obtain ⟨z, hz, hv⟩ := key _ _ _ _ (cellsAt_drop hc off) (hv.enc.drop off) s hb hs
                  exact ⟨s, z, hz, hv, h⟩
        | _ => simp [ho] at h
    | _ => simp at h
end
end Go.Ev
end

section
/- Stores. -/
set_option linter.unusedSimpArgs false
set_option linter.unusedVariables false
namespace Go.Ev
open Go.RowKit (Below)

theorem get_splice {α : Type} (l ys : List α) (p : Nat) (h : p + ys.length ≤ l.length) (i : Nat) :
    (l.take p ++ ys ++ l.drop (p + ys.length))[i]? = if i < p then l[i]? else if i < p + ys.length then ys[i - p]? else l[i]? := by
  have hp : (l.take p).length = p := by rw [List.length_take]; omega
  by_cases h1 : i < p
  · rw [if_pos h1, List.append_assoc, List.getElem?_append_left (by rw [hp]; exact h1), List.getElem?_take, if_pos h1]
  · rw [if_neg h1]
    by_cases h2 : i < p + ys.length
    · rw [if_pos h2, List.getElem?_append_left (by rw [List.length_append, hp]; exact h2), List.getElem?_append_right (by rw [hp]; omega), hp]
    · rw [if_neg h2, List.getElem?_append_right (by rw [List.length_append, hp]; omega), List.length_append, hp, List.getElem?_drop]
      congr 1
      omega
theorem splice_length {α : Type} (l ys : List α) (p : Nat) (h : p + ys.length ≤ l.length) : (l.take p ++ ys ++ l.drop (p + ys.length)).length = l.length := by
  simp only [List.length_append, List.length_take, List.length_drop]
  omega
theorem cells_get {w : World} {b : Nat} {cs : List Value} {T : Nat} {fr : Nat × Nat} (h : w.heap[b]? = some (.cells cs.toArray T fr)) (o : Nat) (l : List Value) : CellsAt w b o l ↔ ∀ j v, l[j]? = some v → cs[o + j]? = some v := by
  constructor
  · intro hc j v hv
    have := hc j v hv
    simp only [World.cell?, h] at this
    simpa using this
  · intro hc j v hv
    simp only [World.cell?, h]
    simpa using hc j v hv

section
variable {P : Program} {w0 : World} {G0 : Nat → Prop} {N : Nat} {F : List (Nat × Obj)} {m : St} {e : Env} {tm : Array Value} {Γ : Tab} {ρ : Type} {os : List (Nat × Obj)}

theorem below_setRow {B : Nat} {w w' : World} (h : Below B w w') {b : Nat} (hb : B ≤ b) (cs : Array Value) : Below B w (w'.setRow b cs) :=
  h.trans ⟨rfl, rfl, rfl, by simp [World.setRow], fun k hk => setRow_other _ _ _ _ (by omega)⟩

/-- A block of the frame's own is written. -/
theorem ObjsOk.wrote (h : ObjsOk w0 G0 m os) {i b : Nat} (hb : blk os m i = some b) (cs : Array Value) :
    m.le { m with w := m.w.setRow b cs } ∧ Below w0.heap.size w0 (m.w.setRow b cs) ∧ (∀ j c, j ≠ i → blk os m j = some c → (m.w.setRow b cs).heap[c]? = m.w.heap[c]?) ∧ m.w.heap.size = (m.w.setRow b cs).heap.size := by
  obtain ⟨o1, o2, o3, o4⟩ := h.out i b hb
  refine ⟨⟨fun c hc => ⟨hc, setRow_other _ _ _ _ fun e => o1 (e ▸ hc)⟩, fun c hc => ⟨hc, setRow_other _ _ _ _ fun e => o2 (e ▸ hc)⟩, fun _ h => h, fun _ _ => rfl, fun _ _ => rfl⟩, below_setRow h.base o4 cs, fun j c hj hc => setRow_other _ _ _ _ fun e => hj (h.inj j i b (e ▸ hc) hb), by simp [World.setRow]⟩

theorem store_sound (hΓ : TabOk P Γ) (hR : Rel w0 G0 N F m e tm) {T : Nat} {x : V} {s : SV} {xv v : Value} {K : SV → Env → Option ρ} {r : ρ} (h : evStore Γ T x s e K = some r) (hx : Lv m x xv) (hs : Sv m s v) :
    ∃ m' e', (Instr.storeAt T xv v).run P m.w = .ok () m'.w ∧ Stp m e m' e' ∧ m'.D = m.D ∧ Rel w0 G0 N F m' e' tm ∧ K (.tup []) e' = some r := by
  unfold evStore at h
  cases hf : find Γ T with
  | none => simp [hf] at h
  | some ti =>
    simp only [hf] at h
    have hT := hΓ T ti hf
    cases hlen : Nat.beq (lenN s.cells) ti.ty.size with
    | false => simp [hlen] at h
    | true =>
      cases htup : s.isTup with
      | true => simp [hlen, htup] at h
      | false =>
        simp only [hlen, htup] at h
        obtain ⟨vs, hvc, hr⟩ := hs.cells htup
        have hl : vs.length = ti.ty.size := by rw [← hr.length, ← lenN_eq]; exact Nat.eq_of_beq_eq_true hlen
        have h1 := hr.oneCells
        cases x with
        | loc id off =>
          obtain ⟨hid, rfl⟩ := hx
          simp only at h
          cases ho : e.obj id with
          | none => simp [ho] at h
          | some o =>
            cases o with
            | var us =>
              simp only [ho] at h
              obtain ⟨cs, U, hh, hrc⟩ := (hR.obj id _ ho).2
              cases hb : Nat.ble (off + ti.ty.size) (lenN us) with
              | false => simp [hb] at h
              | true =>
                simp only [hb] at h
                have hfit : off + vs.length ≤ us.length := by rw [hl, ← lenN_eq]; exact Nat.le_of_ble_eq_true hb
                have hbk : blk (e.objs ++ F) m id = some (m.β id) := blk_left (by
                  have ho' : find e.objs id = some (.var us) := ho
                  simp [blk, ho'])
                have hrun := run_store' (P := P) hT hh hvc hl (o := off) (by simp only [List.size_toArray]; rw [← hrc.length]; exact hfit) h1
                obtain ⟨hle, hbase, hoth, hsz⟩ := hR.ok.wrote hbk (cs.toArray.toList.take off ++ vs ++ cs.toArray.toList.drop (off + vs.length)).toArray
                refine ⟨_, e.setObj id (.var (paste us off s.cells)), hrun, .same hle rfl rfl, rfl, ?_, h⟩
                refine hR.objs hle _ _ (ObjsOk.congr (hR.ok.put hle id _ _ (find_left ho) hbase hoth (fun _ hb => hb) (fun _ hb => hb) hsz hR.ok.gh ?_ ?_) (upd_left _ ho)) (fun i o hf => ?_)
                · refine ⟨cs.take off ++ vs ++ cs.drop (off + vs.length), U, ?_, ?_⟩
                  · exact setRow_heap _ _ _ _ _ _ hh
                  · have hp := R2.paste hrc hr (n := off) (by rw [hr.length]; exact hfit)
                    exact hp.imp fun _ _ hx => Lv.le hle hx
                · intro b hb
                  have ho' : find (e.objs ++ F) id = some (.var us) := find_left ho
                  simp only [blk, find_upd, if_pos, ho', Option.map_some, Option.some.injEq] at hb ⊢
                  exact hb
                · rw [find_upd] at hf
                  by_cases hi : id = i
                  · subst hi; exact hR.disj _ _ ho
                  · rw [if_neg hi] at hf; exact hR.disj _ _ hf
            | _ => simp [ho] at h
        | rel id sz j off =>
          obtain ⟨m1, hl1, hw1, hD1, hR1⟩ := hR.freeze (rowIds s.cells)
          have hx1 := Lv.le hl1 hx
          have hr1 := hr.imp fun _ _ hx => Lv.le hl1 hx
          have hnx : (e.freeze (rowIds s.cells)).next = e.next := rfl
          have hsl : (e.freeze (rowIds s.cells)).slots = e.slots := rfl
          generalize e.freeze (rowIds s.cells) = e1 at h hR1 hnx hsl
          clear hx
          obtain ⟨hid, b, n, c, hν, hj, rfl⟩ := hx1
          simp only at h
          cases ho : e1.obj id with
          | none => simp [ho] at h
          | some o =>
            cases o with
            | row U t xs =>
              simp only [ho] at h
              have hob := (hR1.obj id _ ho).2
              cases hsz : Nat.beq sz t.size with
              | false => simp [hsz] at h
              | true =>
                have hsz' := Nat.eq_of_beq_eq_true hsz
                subst hsz'
                cases hb : Nat.ble (off + ti.ty.size) t.size with
                | false => simp [hsz, hb] at h
                | true =>
                  simp only [hsz, hb] at h
                  generalize hy : xs.getD j t.zero = y at h
                  cases hd : decCells true e1.objs t (paste (enc t y []) off s.cells) with
                  | none => simp [hd] at h
                  | some y' =>
                    simp only [hd] at h
                    have hfit : off + vs.length ≤ t.size := by rw [hl]; exact Nat.le_of_ble_eq_true hb
                    rcases hob with ⟨e2, _⟩ | ⟨b', c', cs, e2, hh, h2, h3, h4, hx⟩
                    · rw [hν] at e2; simp at e2
                    · rw [hν] at e2
                      simp only [Value.slice.injEq, Option.some.injEq, Addr.mk.injEq, and_true] at e2
                      obtain ⟨rfl, rfl, rfl⟩ := e2
                      obtain ⟨cj, hcj, hvj⟩ := hx j hj
                      rw [hy] at hvj
                      have hcl : cj.length = t.size := hvj.length
                      have hin : j * t.size + off + vs.length ≤ cs.length := by
                        rw [h4]
                        have : (j + 1) * t.size ≤ c * t.size := Nat.mul_le_mul_right _ (by omega)
                        rw [Nat.add_mul, Nat.one_mul] at this
                        omega
                      have hbk : blk (e1.objs ++ F) m1 id = some b := blk_left (by
                        have ho' : find e1.objs id = some (.row U t xs) := ho
                        simp [blk, ho', hν, Value.ownBlock])
                      have hrun := run_store' (P := P) hT hh hvc hl (o := j * t.size + off) (by simpa using hin) h1
                      obtain ⟨hle, hbase, hoth, hsz2⟩ := hR1.ok.wrote hbk (cs.toArray.toList.take (j * t.size + off) ++ vs ++ cs.toArray.toList.drop (j * t.size + off + vs.length)).toArray
                      have hnew := setRow_heap m1.w b _ (cs.toArray.toList.take (j * t.size + off) ++ vs ++ cs.toArray.toList.drop (j * t.size + off + vs.length)).toArray _ _ hh
                      refine ⟨_, e1.setObj id (.row U t (xs.set j y')), (by rw [← hw1]; exact hrun), .same (hl1.trans hle) hD1 hnx hsl, hD1, ?_, h⟩
                      refine hR1.objs hle _ _ (ObjsOk.congr (hR1.ok.put hle id _ _ (find_left ho) hbase hoth (fun _ hb => hb) (fun _ hb => hb) hsz2 hR1.ok.gh ?_ ?_) (upd_left _ ho)) (fun i o hf => ?_)
                      · -- the row behind the store
                        refine .inr ⟨b, c, _, ?_, hnew, by simpa using h2, h3, ?_, ?_⟩
                        · show m1.ν id = _
                          rw [hν]; simp
                        · rw [splice_length _ _ _ hin]; exact h4
                        · intro j' hj'
                          simp only [List.length_set] at hj'
                          by_cases hjj : j' = j
                          · subst hjj
                            refine ⟨cj.take off ++ vs ++ cj.drop (off + vs.length), ?_, ?_⟩
                            · rw [cells_get hnew]
                              intro q u hq
                              rw [get_splice _ _ _ (by rw [hcl]; exact hfit)] at hq
                              rw [get_splice _ _ _ hin]
                              have hold := (cells_get hh _ _).1 hcj
                              by_cases q1 : q < off
                              · rw [if_pos q1] at hq
                                rw [if_pos (by omega)]
                                exact hold q u hq
                              · rw [if_neg q1] at hq
                                rw [if_neg (by omega)]
                                by_cases q2 : q < off + vs.length
                                · rw [if_pos q2] at hq
                                  rw [if_pos (by omega)]
                                  have : j' * t.size + q - (j' * t.size + off) = q - off := by omega
                                  rw [this]; exact hq
                                · rw [if_neg q2] at hq
                                  rw [if_neg (by omega)]
                                  exact hold q u hq
                            · have hgd : (xs.set j' y').getD j' t.zero = y' := by
                                simp [List.getD_eq_getElem?_getD, List.getElem?_set, hj']
                              rw [hgd]
                              have hpv := R2.paste (Val.enc hvj) hr1 (n := off) (by rw [(Val.enc hvj).length, hr1.length, hcl]; exact hfit)
                              have := decCells_val (Gd := m1.G) (fun i o hi => (hR1.obj i o hi).2) (fun _ h => h) (fun h => by simp at h) hd hpv
                              exact Val.le hle this
                          · obtain ⟨cj', hcj', hvj'⟩ := hx j' hj'
                            refine ⟨cj', ?_, ?_⟩
                            · rw [cells_get hnew]
                              intro q u hq
                              have hq' : q < t.size := by
                                have := hvj'.length
                                have := (List.getElem?_eq_some_iff.1 hq).1
                                omega
                              rw [get_splice _ _ _ hin]
                              have hold := (cells_get hh _ _).1 hcj' q u hq
                              by_cases hlt : j' < j
                              · have : (j' + 1) * t.size ≤ j * t.size := Nat.mul_le_mul_right _ hlt
                                rw [Nat.add_mul, Nat.one_mul] at this
                                rw [if_pos (by omega)]
                                exact hold
                              · have : (j + 1) * t.size ≤ j' * t.size := Nat.mul_le_mul_right _ (by omega)
                                rw [Nat.add_mul, Nat.one_mul] at this
                                rw [if_neg (by omega), if_neg (by omega)]
                                exact hold
                            · have hgd : (xs.set j y').getD j' t.zero = xs.getD j' t.zero := by
                                simp [List.getD_eq_getElem?_getD, List.getElem?_set, Ne.symm hjj]
                              rw [hgd]
                              exact Val.le hle hvj'
                      · intro b' hb'
                        have ho' : find (e1.objs ++ F) id = some (.row U t xs) := find_left ho
                        simp only [blk, find_upd, if_pos, ho', Option.map_some] at hb' ⊢
                        exact hb'
                      · rw [find_upd] at hf
                        by_cases hi : id = i
                        · subst hi; exact hR1.disj _ _ ho
                        · rw [if_neg hi] at hf; exact hR1.disj _ _ hf
            | _ => simp [ho] at h
        | _ => simp at h
end
end Go.Ev
end

section
/- Operations that make memory; addresses. -/
set_option linter.unusedSimpArgs false
set_option linter.unusedVariables false
namespace Go.Ev
open Go.RowKit (Below)

section
variable {P : Program} {w0 : World} {G0 : Nat → Prop} {N : Nat} {F : List (Nat × Obj)} {m : St} {e : Env} {tm : Array Value} {Γ : Tab} {ρ : Type}

theorem alloc_sound (hΓ : TabOk P Γ) (hR : Rel w0 G0 N F m e tm) {T : Nat} {ti : TI} (hf : find Γ T = some ti) (hfr : ¬ m.D e.next) :
    ∃ m' v, (Instr.alloc T true (.tuple #[])).run P m.w = .ok v m'.w ∧ Stp m e m' (e.new (.var (zeros ti.ty []))) ∧ Rel w0 G0 N F m' (e.new (.var (zeros ti.ty []))) tm ∧ Lv m' (.loc e.next 0) v := by
  have hT := hΓ T ti hf
  obtain ⟨i, z, cs, hi, hs, hb, hz, hc, ha, hr⟩ := hT.info
  obtain ⟨m', hle, hw, hn, hβ, hok⟩ := hR.ok.newVar (zeros ti.ty []) cs T (hr m) hfr
  refine ⟨m', .pointer (some ⟨m.w.heap.size, 0, none⟩), ?_, .new hle hn rfl, hR.push hfr hle _ hok, (hn _).2 (.inr rfl), ?_⟩
  · rw [hw]
    simp [Instr.alloc, zeroValue, typeInfo, hi, hz, newVar, newRow, hc]
  · rw [hβ]

theorem box_sound (hR : Rel w0 G0 N F m e tm) {T : Nat} {s : SV} {v : Value} (hs : Sv m s v) (ht : s.isTup = false) (hfr : ¬ m.D e.next) :
    ∃ m' u, (Instr.box T v).run P m.w = .ok u m'.w ∧ Stp m e m' (e.new (.var s.cells)) ∧ Rel w0 G0 N F m' (e.new (.var s.cells)) tm ∧ Lv m' (.loc e.next 0) u := by
  obtain ⟨cs, hc, hr⟩ := hs.cells ht
  obtain ⟨m', hle, hw, hn, hβ, hok⟩ := hR.ok.newVar s.cells cs T hr hfr
  refine ⟨m', .pointer (some ⟨m.w.heap.size, 0, none⟩), ?_, .new hle hn rfl, hR.push hfr hle _ hok, (hn _).2 (.inr rfl), ?_⟩
  · rw [hw]
    simp [Instr.box, newVar, newRow, hc]
  · rw [hβ]

theorem fieldAt_run (hΓ : TabOk P Γ) {T i d : Nat} {ti : TI} (hf : find Γ T = some ti) (hd : nth ti.offs i = some d) (ha : ti.ty.isAgg = true) (w : World) (b o : Nat) :
    (Instr.fieldAt T (.pointer (some ⟨b, o, none⟩)) i).run P w = .ok (.pointer (some ⟨b, o + d, none⟩)) w := by
  have hT := hΓ T ti hf
  obtain ⟨td, hu, hrow, hfs⟩ := hT.under
  rcases hfs ha with ⟨fs, rfl, hok, _⟩ | ⟨_, _, _, _, ho, _⟩
  case inr => rw [ho] at hd; simp [nth] at hd
  obtain ⟨f, j, hf1, hf2, hf3, hf4, hf5⟩ := fieldsOk_get hok i d hd
  have hf1' : fs[i]? = some f := by simpa using hf1
  simp [Instr.fieldAt, run_underlying hu, hf1', Instr.sureAddr, fieldPlace, sizeOf, typeInfo, hf3, hf5, Addr.add_mid, hf2]

/-- The element type's row of the table. -/
theorem elem_info (hΓ : TabOk P Γ) {T : Nat} {ti : TI} (hf : find Γ T = some ti) {t : Ty} (ht : ti.ty = .sl t) :
    P.underlying T = some (.slice ti.elem) ∧ 0 < t.size ∧ ∃ tj, find Γ ti.elem = some tj ∧ tj.ty = t ∧ ∃ i z cs, P.info? ti.elem = some i ∧ i.size = t.size ∧ i.bytes ≤ 1024 ∧ i.zero = some z ∧ z.cells = List.toArray cs ∧ (∀ m, R2 (Lv m) (zeros t []) cs) := by
  obtain ⟨h1, h2, tj, h3, h4⟩ := (hΓ T ti hf).sl t ht
  have hE := hΓ _ tj h3
  obtain ⟨i, z, cs, hi, hs, hb, hz, hc, ha, hr⟩ := hE.info
  subst h4
  exact ⟨h1, h2, tj, h3, rfl, i, z, cs, hi, hs, by rw [hb]; exact hE.small, hz, hc, hr⟩

theorem addr_add (b o n : Nat) : (⟨b, o, none⟩ : Addr).add n = ⟨b, o + n, none⟩ := Addr.add_mid b o n
theorem addr_eta {a : Addr} (h : a.spot = none) : a = ⟨a.block, a.off, none⟩ := by
  cases a; simp only at h; subst h; rfl

theorem indexAt_run (hΓ : TabOk P Γ) {T : Nat} {ti : TI} (hf : find Γ T = some ti) {t : Ty} (ht : ti.ty = .sl t) (w : World) {a : Addr} (hs : a.spot = none) (len cap : Nat) (k : IntKind) (i : Int) (h0 : 0 ≤ i) (h1 : i < len) :
    (Instr.indexAt T (.slice (some a) len cap) (.int k i)).run P w = .ok (.pointer (some ⟨a.block, a.off + i.toNat * t.size, none⟩)) w := by
  obtain ⟨hu, _, tj, _, _, inf, z, cs, hi, hsz, _⟩ := elem_info hΓ hf ht
  rw [addr_eta hs]
  simp [Instr.indexAt, run_underlying hu, asIntOf, h0, h1, sizeOf, typeInfo, hi, hsz, addr_add]

theorem indexAddr_sound (hΓ : TabOk P Γ) (hR : Rel w0 G0 N F m e tm) {T : Nat} {ti : TI} (hf : find Γ T = some ti) {x : V} {v : Value} {k : IntKind} {n : Int} {K : SV → Option ρ} {r : ρ}
    (h : evIndexAddr ti.ty x n e K = some r) (hx : Lv m x v) : ∃ sv z, (Instr.indexAt T v (.int k n)).run P m.w = .ok z m.w ∧ Sv m sv z ∧ K sv = some r := by
  -- a view
  have view : ∀ (t : Ty) (xs : List t.den), ti.ty = .sl t → Val m.w m.G (.sl t) xs [v] → chk (decide (0 ≤ n)) (chk (decide (n < xs.length)) (K (.one (.el t (xs.getD n.toNat t.zero) 0)))) = some r →
      ∃ sv z, (Instr.indexAt T v (.int k n)).run P m.w = .ok z m.w ∧ Sv m sv z ∧ K sv = some r := by
    intro t xs ht hv h
    obtain ⟨h0, h⟩ := chk_dec h
    obtain ⟨h1, h⟩ := chk_dec h
    obtain ⟨A, len, c, e1, hl, hc, hel⟩ := hv
    simp only [List.cons.injEq, and_true] at e1
    subst e1
    obtain ⟨a, cs', rfl, hs, hg, hcs, hval⟩ := hel n.toNat (by omega)
    exact ⟨.one (.el t (xs.getD n.toNat t.zero) 0), _, indexAt_run hΓ hf ht m.w hs len c k n h0 (by omega), ⟨_, _, cs', rfl, hR.ok.gh _ hg, hcs, hval⟩, h⟩
  unfold evIndexAddr at h
  cases x with
  | sl t xs =>
    simp only at h
    cases ht : tyEq ti.ty (.sl t) with
    | false => simp [ht] at h
    | true =>
      simp only [ht] at h
      exact view t xs (tyEq_eq ht) hx h
  | row id =>
    obtain ⟨hid, rfl, _⟩ := hx
    simp only at h
    cases ho : e.obj id with
    | none => simp [ho] at h
    | some o =>
      have hob := (hR.obj id _ ho).2
      cases o with
      | var vs => simp [ho] at h
      | frow t xs =>
        simp only [ho] at h
        cases ht : tyEq ti.ty (.sl t) with
        | false => simp [ht] at h
        | true =>
          simp only [ht] at h
          exact view t xs (tyEq_eq ht) hob h
      | row U t xs =>
        simp only [ho] at h
        cases ht : tyEq ti.ty (.sl t) with
        | false => simp [ht] at h
        | true =>
          simp only [ht] at h
          obtain ⟨h0, h⟩ := chk_dec h
          obtain ⟨h1, h⟩ := chk_dec h
          rcases hob with ⟨_, rfl⟩ | ⟨b, c, cs, e1, hh, _⟩
          · simp at h1; omega
          · have hrun := indexAt_run hΓ hf (tyEq_eq ht) m.w (a := ⟨b, 0, none⟩) rfl xs.length c k n h0 h1
            rw [← e1] at hrun
            refine ⟨.one (.rel id t.size n.toNat 0), _, hrun, ⟨hid, b, xs.length, c, e1, by omega, by simp⟩, h⟩
  | _ => simp at h

theorem len_sound (hΓ : TabOk P Γ) (hR : Rel w0 G0 N F m e tm) {T : Nat} {ti : TI} (hf : find Γ T = some ti) {x : V} {v : Value} {n : Nat} (h : lenOf e ti.ty x = some n) (hx : Lv m x v) (ts : Array TypeId) (hts : ts[0]? = some T) (ty : TypeId) :
    (Builtin.len_ ts ty #[v]).run P m.w = .ok (.int .i64 n) m.w := by
  have hT := hΓ T ti hf
  have key : ∀ t, ti.ty = .sl t → ∀ A c, v = .slice A n c → (Builtin.len_ ts ty #[v]).run P m.w = .ok (.int .i64 n) m.w := by
    intro t ht A c hv
    subst hv
    obtain ⟨h1, _⟩ := hT.sl t ht
    simp [Builtin.len_, hts, run_underlying h1, goInt]
  unfold lenOf at h
  cases hty : ti.ty with
  | str =>
    rw [hty] at h
    cases x with
    | s y =>
      simp only [Option.some.injEq] at h
      obtain ⟨s, rfl, rfl⟩ := hx
      have hu := hT.str hty
      subst h
      simp only [Builtin.len_, hts, Sem.run_bind, run_underlying hu, Result.andThen_ok, List.getElem?_toArray, List.getElem?_cons_zero, goInt, Sem.run_pure, ba_size]
    | _ => simp at h
  | sl t =>
    rw [hty] at h
    cases x with
    | sl u xs =>
      simp only [Option.some.injEq] at h
      obtain ⟨A, k, c, e1, hl, _⟩ := hx
      simp only [List.cons.injEq, and_true] at e1
      exact key t hty A c (by rw [e1]; congr 1; omega)
    | nil =>
      simp only [Option.some.injEq] at h
      simp only [Lv] at hx
      exact key t hty none 0 (by rw [hx, ← h])
    | row id =>
      obtain ⟨hid, rfl, A0, n0, c0, e0⟩ := hx
      simp only at h
      cases ho : e.obj id with
      | none => simp [ho] at h
      | some o =>
        have hob := (hR.obj id _ ho).2
        cases o with
        | var vs => simp [ho] at h
        | frow u xs =>
          simp only [ho, Option.some.injEq] at h
          obtain ⟨A, k, c, e1, hl, _⟩ := hob
          simp only [List.cons.injEq, and_true] at e1
          exact key t hty A c (by rw [e1]; congr 1; omega)
        | row U u xs =>
          simp only [ho, Option.some.injEq] at h
          rcases hob with ⟨e1, rfl⟩ | ⟨b, c, cs, e1, _⟩
          · exact key t hty none 0 (by rw [e1, ← h]; rfl)
          · exact key t hty _ c (by rw [e1, ← h])
    | _ => simp at h
  | _ => rw [hty] at h; simp at h

theorem index_sound (hΓ : TabOk P Γ) {T : Nat} {ti : TI} (hf : find Γ T = some ti) (ht : ti.ty = .str) {s : ByteArray} {k : IntKind} {n : Int} (h0 : 0 ≤ n) (h1 : n < s.data.toList.length) (w : World) :
    (Instr.index T (.string s) (.int k n)).run P w = .ok (.int .u8 ((s.data.toList.getD n.toNat 0).toNat : Nat)) w := by
  have hu := (hΓ T ti hf).str ht
  have hlt : n.toNat < s.size := by rw [ba_size]; omega
  have hlt' : n.toNat < s.data.toList.length := by omega
  have hg : s[n.toNat]? = some (s.data.toList.getD n.toNat 0) := by
    rw [ByteArray.getElem?_lt' s _ hlt, List.getD_eq_getElem?_getD, List.getElem?_eq_getElem hlt']
    rfl
  simp only [Instr.index, asIntOf, Sem.run_bind, Sem.run_pure, Result.andThen_ok, run_underlying hu, h0, if_true, hg]
end
end Go.Ev
end

section
/- Slices: cut, made, appended to. -/
set_option linter.unusedSimpArgs false
set_option linter.unusedVariables false
namespace Go.Ev
open Go.RowKit (Below)

section
variable {P : Program} {w0 : World} {G0 : Nat → Prop} {N : Nat} {F : List (Nat × Obj)} {m : St} {e : Env} {a : Act} {Γ : Tab} {ρ : Type}

theorem bound_val (hR : Rel w0 G0 N F m e a.tmps) {o : Option Operand} {n : Option Int} (h : bound e o = some n) : match n with
    | none => o = none
    | some i => ∃ x k, o = some x ∧ a.eval x = .int k i := by
  unfold bound at h
  cases o with
  | none => simp only [Option.some.injEq] at h; subst h; rfl
  | some x =>
    simp only at h
    cases hx : e.one x with
    | none => simp [hx] at h
    | some v =>
      have hl := one_lv hR hx
      cases v with
      | i k i => simp only [hx, Option.some.injEq] at h; subst h; exact ⟨x, k, rfl, hl⟩
      | _ => simp [hx] at h

/-- A piece of a view. -/
theorem val_piece {w : World} {G : Nat → Prop} {t : Ty} {xs : List t.den} {A : Option Addr} {n c : Nat} (h : Val w G (.sl t) xs [.slice A n c]) {l h' mx : Nat} (h1 : l ≤ h') (h2 : h' ≤ n) (hm : mx = c) :
    Val w G (.sl t) ((xs.take h').drop l) [sliced A l h' mx t.size] := by
  subst hm
  obtain ⟨A', n', c', e1, hl, hc, hel⟩ := h
  simp only [List.cons.injEq, Value.slice.injEq, and_true] at e1
  obtain ⟨rfl, rfl, rfl⟩ := e1
  refine ⟨_, _, _, rfl, by simp; omega, by omega, fun j hj => ?_⟩
  simp only [List.length_drop, List.length_take] at hj
  obtain ⟨a, cs', rfl, hs, hg, hcs, hv⟩ := hel (l + j) (by omega)
  have hne : ¬ mx = l := by omega
  refine ⟨a.add (l * t.size), cs', by simp [hne], ?_, ?_, ?_, ?_⟩
  · rw [addr_eta hs, addr_add]
  · rw [addr_eta hs, addr_add]; exact hg
  · rw [addr_eta hs, addr_add]
    rw [Nat.add_mul] at hcs
    simpa [Nat.add_assoc] using hcs
  · have : ((xs.take h').drop l).getD j t.zero = xs.getD (l + j) t.zero := by
      simp only [List.getD_eq_getElem?_getD, List.getElem?_drop, List.getElem?_take]
      rw [if_pos (by omega)]
    rw [this]; exact hv

theorem sliceN_sound (hΓ : TabOk P Γ) {T : Nat} {ti : TI} (hf : find Γ T = some ti) {t : Ty} (ht : ti.ty = .sl t) {xs : List t.den} {v : Value} (hv : Val m.w m.G (.sl t) xs [v])
    (hR : Rel w0 G0 N F m e a.tmps) {lo hi : Option Operand} {l h : Option Int} (hl : bound e lo = some l) (hh : bound e hi = some h) {K : SV → Option ρ} {r : ρ}
    (hk : evSliceN t xs l h K = some r) : ∃ sv z, (Instr.sliceAt T v (lo.map a.eval) (hi.map a.eval) none).run P m.w = .ok z m.w ∧ Sv m sv z ∧ K sv = some r := by
  obtain ⟨hu, _, tj, _, _, inf, z, cs, hi', hsz, _⟩ := elem_info hΓ hf ht
  obtain ⟨A, n, c, e1, hlen, hc, hel⟩ := id hv
  simp only [List.cons.injEq, and_true] at e1
  subst e1
  have hel' : P.elem T = ti.elem := by simp [Program.elem, hu]
  have hu' : P.underlying T = some (.slice (P.elem T)) := by rw [hel']; exact hu
  have hs : ∀ w, (sizeOf (P.elem T)).run P w = .ok t.size w := by
    intro w
    rw [hel']
    simp [sizeOf, typeInfo, hi', hsz]
  have b1 := bound_val hR hl
  have b2 := bound_val hR hh
  rw [run_sliceAt_slice m.w T _ _ _ _ hu']
  cases l with
  | none =>
    simp only at b1
    subst b1
    cases h with
    | none =>
      simp only at b2
      subst b2
      simp only [evSliceN] at hk
      refine ⟨.one (.sl t xs), sliced A 0 n c t.size, ?_, ?_, hk⟩
      · simp only [Option.map_none]
        rw [run_slice_all m.w T A n c hu', hs]
        rfl
      · have := val_piece (l := 0) (h' := n) hv (Nat.zero_le _) (Nat.le_refl _) rfl
        simp only [List.drop_zero] at this
        rw [List.take_of_length_le (by omega)] at this
        exact this
    | some h =>
      obtain ⟨x, k, rfl, hx⟩ := b2
      simp only [evSliceN] at hk
      obtain ⟨k1, hk⟩ := chk_dec hk
      obtain ⟨k2, hk⟩ := chk_dec hk
      refine ⟨.one (.sl t (xs.take h.toNat)), sliced A 0 h.toNat c t.size, ?_, ?_, hk⟩
      · simp only [Option.map_none, Option.map_some, hx]
        rw [run_slice_h m.w T A n c hu' k h k1 (by omega), hs]
        rfl
      · have := val_piece (l := 0) (h' := h.toNat) hv (Nat.zero_le _) (by omega) rfl
        simp only [List.drop_zero] at this
        exact this
  | some l =>
    obtain ⟨x, k, rfl, hx⟩ := b1
    cases h with
    | none =>
      simp only at b2
      subst b2
      simp only [evSliceN] at hk
      obtain ⟨k1, hk⟩ := chk_dec hk
      obtain ⟨k2, hk⟩ := chk_dec hk
      refine ⟨.one (.sl t (xs.drop l.toNat)), sliced A l.toNat n c t.size, ?_, ?_, hk⟩
      · simp only [Option.map_none, Option.map_some, hx]
        rw [run_slice_l m.w T A n c hu' k l k1 (by omega), hs]
        rfl
      · have := val_piece (l := l.toNat) (h' := n) hv (by omega) (Nat.le_refl _) rfl
        rw [List.take_of_length_le (by omega)] at this
        exact this
    | some h =>
      obtain ⟨y, k', rfl, hy⟩ := b2
      simp only [evSliceN] at hk
      obtain ⟨k1, hk⟩ := chk_dec hk
      obtain ⟨k2, hk⟩ := chk_dec hk
      obtain ⟨k3, hk⟩ := chk_dec hk
      refine ⟨.one (.sl t ((xs.take h.toNat).drop l.toNat)), sliced A l.toNat h.toNat c t.size, ?_, ?_, hk⟩
      · simp only [Option.map_some, hx, hy]
        rw [run_slice_lh m.w T A n c hu' k k' l h k1 k2 (by omega), hs]
        rfl
      · exact val_piece (l := l.toNat) (h' := h.toNat) hv (by omega) (by omega) rfl

theorem extract_list (s : ByteArray) (l h : Nat) : (s.extract l h).data.toList = (s.data.toList.take h).drop l := by
  rw [Lib.extract_data, List.drop_take]

theorem sliceS_sound (hΓ : TabOk P Γ) {T : Nat} {ti : TI} (hf : find Γ T = some ti) (ht : ti.ty = .str) {s : ByteArray}
    (hR : Rel w0 G0 N F m e a.tmps) {lo hi : Option Operand} {l h : Option Int} (hl : bound e lo = some l) (hh : bound e hi = some h) {K : SV → Option ρ} {r : ρ}
    (hk : evSliceS s.data.toList l h K = some r) : ∃ sv z, (Instr.sliceAt T (.string s) (lo.map a.eval) (hi.map a.eval) none).run P m.w = .ok z m.w ∧ Sv m sv z ∧ K sv = some r := by
  have hu := (hΓ T ti hf).str ht
  have b1 := bound_val hR hl
  have b2 := bound_val hR hh
  rw [run_sliceAt_string m.w T _ _ _ _ hu]
  have hsz := ba_size s
  cases l with
  | none =>
    simp only at b1
    subst b1
    cases h with
    | none =>
      simp only at b2
      subst b2
      simp only [evSliceS] at hk
      refine ⟨.one (.s s.data.toList), _, run_slice_string_all m.w T s hu, ⟨_, rfl, ?_⟩, hk⟩
      rw [extract_list, hsz, List.take_of_length_le (Nat.le_refl _)]
      rfl
    | some h =>
      obtain ⟨x, k, rfl, hx⟩ := b2
      simp only [evSliceS] at hk
      obtain ⟨k1, hk⟩ := chk_dec hk
      obtain ⟨k2, hk⟩ := chk_dec hk
      refine ⟨.one (.s (s.data.toList.take h.toNat)), .string (s.extract 0 h.toNat), ?_, ⟨_, rfl, ?_⟩, hk⟩
      · simp only [Option.map_none, Option.map_some, hx]
        exact run_slice_string_h m.w T s hu k h k1 (by omega)
      · rw [extract_list]; rfl
  | some l =>
    obtain ⟨x, k, rfl, hx⟩ := b1
    cases h with
    | none =>
      simp only at b2
      subst b2
      simp only [evSliceS] at hk
      obtain ⟨k1, hk⟩ := chk_dec hk
      obtain ⟨k2, hk⟩ := chk_dec hk
      refine ⟨.one (.s (s.data.toList.drop l.toNat)), .string (s.extract l.toNat s.size), ?_, ⟨_, rfl, ?_⟩, hk⟩
      · simp only [Option.map_none, Option.map_some, hx]
        exact run_slice_string_l m.w T s hu k l k1 (by omega)
      · rw [extract_list, hsz, List.take_of_length_le (Nat.le_refl _)]
    | some h =>
      obtain ⟨y, k', rfl, hy⟩ := b2
      simp only [evSliceS] at hk
      obtain ⟨k1, hk⟩ := chk_dec hk
      obtain ⟨k2, hk⟩ := chk_dec hk
      obtain ⟨k3, hk⟩ := chk_dec hk
      refine ⟨.one (.s ((s.data.toList.take h.toNat).drop l.toNat)), .string (s.extract l.toNat h.toNat), ?_, ⟨_, rfl, ?_⟩, hk⟩
      · simp only [Option.map_some, hx, hy]
        have k4 : h ≤ s.size := by omega
        have k5 : 0 ≤ h := by omega
        have eh : (h.toNat : Int) = h := Int.toNat_of_nonneg k5
        simp [Instr.slice, run_underlying hu, Instr.sliceBounds, run_sliceBound, k1, k2, k4, k5, eh]
      · rw [extract_list]
end
end Go.Ev
end

section
/- append, make. -/
set_option linter.unusedSimpArgs false
set_option linter.unusedVariables false
namespace Go.Ev
open Go.RowKit (Below)

theorem cellsAt_append {w : World} {b o : Nat} {l l' : List Value} (h : CellsAt w b o l) (h' : CellsAt w b (o + l.length) l') : CellsAt w b o (l ++ l') := by
  intro j v hv
  by_cases hj : j < l.length
  · rw [List.getElem?_append_left hj] at hv
    exact h j v hv
  · rw [List.getElem?_append_right (by omega)] at hv
    have := h' (j - l.length) v hv
    have e : o + l.length + (j - l.length) = o + j := by omega
    rwa [e] at this

/-- the cells of several elements, one behind the other -/
theorem flat_of {w : World} {sz : Nat} (f : Nat → List Value → Prop) (b o : Nat) : ∀ n, (∀ j, j < n → ∃ cs', CellsAt w b (o + j * sz) cs' ∧ f j cs' ∧ cs'.length = sz ∧ ∀ u ∈ cs', u.oneCell' = true) →
    ∃ flat : List Value, flat.length = n * sz ∧ CellsAt w b o flat ∧ (∀ j, j < n → f j ((flat.drop (j * sz)).take sz)) ∧ ∀ u ∈ flat, u.oneCell' = true
  | 0, _ => ⟨[], by simp, fun j v h => by simp at h, fun j h => absurd h (by omega), fun u h => by simp at h⟩
  | n + 1, h => by
    obtain ⟨fl, hl, hc, hf, h1⟩ := flat_of f b o n fun j hj => h j (by omega)
    obtain ⟨cs', c1, c2, c3, c4⟩ := h n (by omega)
    refine ⟨fl ++ cs', by rw [List.length_append, hl, c3, Nat.add_mul, Nat.one_mul], cellsAt_append hc (by rw [hl]; exact c1), fun j hj => ?_, fun u hu => ?_⟩
    · by_cases hjn : j < n
      · have hle : (j + 1) * sz ≤ n * sz := Nat.mul_le_mul_right _ hjn
        rw [Nat.add_mul, Nat.one_mul] at hle
        rw [List.drop_append_of_le_length (by omega), List.take_append_of_le_length (by rw [List.length_drop]; omega)]
        exact hf j hjn
      · have hj' : j = n := by omega
        subst hj'
        have e : (fl ++ cs').drop (j * sz) = cs' := by rw [← hl, List.drop_left]
        rw [e, List.take_of_length_le (by omega)]
        exact c2
    · rcases List.mem_append.1 hu with hu | hu
      · exact h1 u hu
      · exact c4 u hu
theorem Val.oneCells {m : St} {t : Ty} {x : t.den} {cs : List Value} (h : Val m.w m.G t x cs) : ∀ u ∈ cs, u.oneCell' = true := R2.oneCells h.enc

/-- What can be appended. -/
def Src (m : St) (t : Ty) (ys : List t.den) (x : Value) : Prop :=
  ∃ A c, ∃ news : List Value, x = .slice A ys.length c ∧ news.length = ys.length * t.size ∧
    (0 < ys.length → ∃ ad : Addr, A = some ad ∧ ∀ j u, news[j]? = some u → m.w.cell? (ad.add j) = some u) ∧
    (∀ j, j < ys.length → Val m.w m.G t (ys.getD j t.zero) ((news.drop (j * t.size)).take t.size)) ∧ ∀ u ∈ news, u.oneCell' = true

theorem Src.of_val {m : St} {t : Ty} {ys : List t.den} {x : Value} (h : Val m.w m.G (.sl t) ys [x]) : Src m t ys x := by
  obtain ⟨A, n, c, e, hl, hc, hel⟩ := h
  simp only [List.cons.injEq, and_true] at e
  subst e
  by_cases h0 : 0 < ys.length
  · obtain ⟨a, _, ha, hs, _⟩ := hel 0 h0
    obtain ⟨flat, h1, h2, h3, h4⟩ := flat_of (w := m.w) (sz := t.size) (fun j cs' => Val m.w m.G t (ys.getD j t.zero) cs') a.block a.off ys.length fun j hj => by
      obtain ⟨a', cs', ha', hs', _, hc', hv'⟩ := hel j hj
      rw [ha] at ha'
      obtain rfl := Option.some.inj ha'
      exact ⟨cs', hc', hv', hv'.length, Val.oneCells (m := m) hv'⟩
    refine ⟨A, c, flat, by rw [hl], h1, fun _ => ⟨a, ha, fun j u hu => ?_⟩, h3, h4⟩
    rw [addr_eta hs, addr_add]
    exact h2 j u hu
  · have : ys = [] := List.eq_nil_of_length_eq_zero (by omega)
    subst this
    exact ⟨A, c, [], by rw [← hl], by simp, fun h => absurd h (by simp), fun j h => absurd h (by simp), fun u h => by simp at h⟩
theorem Src.of_row {m : St} {T : Nat} {t : Ty} {ys : List t.den} {x : Value} (h : RowAt m.w m.G T t ys x) : Src m t ys x := by
  rcases h with ⟨rfl, rfl⟩ | ⟨b, c, cs, e, hh, h1, h2, h3, hx⟩
  · exact ⟨none, 0, [], rfl, by simp, fun h => absurd h (by simp), fun j h => absurd h (by simp), fun u h => by simp at h⟩
  · obtain ⟨flat, g1, g2, g3, g4⟩ := flat_of (w := m.w) (sz := t.size) (fun j cs' => Val m.w m.G t (ys.getD j t.zero) cs') b 0 ys.length fun j hj => by
      obtain ⟨cs', hc', hv'⟩ := hx j hj
      exact ⟨cs', by simpa using hc', hv', hv'.length, Val.oneCells (m := m) hv'⟩
    refine ⟨_, c, flat, e, g1, fun _ => ⟨⟨b, 0, none⟩, rfl, fun j u hu => ?_⟩, g3, g4⟩
    rw [addr_add]
    exact g2 j u hu

theorem RowAt.mk {w : World} {G : Nat → Prop} {T b c : Nat} {t : Ty} {zs : List t.den} {cur flat : List Value} (hh : w.heap[b]? = some (.cells cur.toArray T (0, 0))) (hc : zs.length ≤ c) (hm : c ≤ maxLen) (hl : cur.length = c * t.size)
    (hf : cur.take (zs.length * t.size) = flat) (hv : ∀ j, j < zs.length → Val w G t (zs.getD j t.zero) ((flat.drop (j * t.size)).take t.size)) : RowAt w G T t zs (.slice (some ⟨b, 0, none⟩) zs.length c) := by
  refine .inr ⟨b, c, cur, rfl, hh, hc, hm, hl, fun j hj => ⟨_, ?_, hv j hj⟩⟩
  rw [cells_get hh]
  intro q v hq
  rw [← hf, List.getElem?_take] at hq
  split at hq
  · rw [List.getElem?_drop, List.getElem?_take] at hq
    split at hq
    · exact hq
    · simp at hq
  · simp at hq
/-- two lists of elements, one behind the other -/
theorem pieces_append {w : World} {G : Nat → Prop} {t : Ty} {xs ys : List t.den} {f g : List Value} (hf : f.length = xs.length * t.size) (hg : g.length = ys.length * t.size)
    (h1 : ∀ j, j < xs.length → Val w G t (xs.getD j t.zero) ((f.drop (j * t.size)).take t.size)) (h2 : ∀ j, j < ys.length → Val w G t (ys.getD j t.zero) ((g.drop (j * t.size)).take t.size)) :
    ∀ j, j < (xs ++ ys).length → Val w G t ((xs ++ ys).getD j t.zero) (((f ++ g).drop (j * t.size)).take t.size) := by
  intro j hj
  rw [List.length_append] at hj
  by_cases h : j < xs.length
  · have hle : (j + 1) * t.size ≤ xs.length * t.size := Nat.mul_le_mul_right _ h
    rw [Nat.add_mul, Nat.one_mul] at hle
    rw [List.drop_append_of_le_length (by omega), List.take_append_of_le_length (by rw [List.length_drop]; omega)]
    have e : (xs ++ ys).getD j t.zero = xs.getD j t.zero := by simp [List.getD_eq_getElem?_getD, List.getElem?_append_left h]
    rw [e]
    exact h1 j h
  · have e1 : j * t.size = f.length + (j - xs.length) * t.size := by
      rw [hf, ← Nat.add_mul]; congr 1; omega
    rw [e1, ← List.drop_drop, List.drop_left]
    have e : (xs ++ ys).getD j t.zero = ys.getD (j - xs.length) t.zero := by simp [List.getD_eq_getElem?_getD, List.getElem?_append_right (show xs.length ≤ j by omega)]
    rw [e]
    exact h2 _ (by omega)

section
variable {P : Program} {w0 : World} {G0 : Nat → Prop} {N : Nat} {F : List (Nat × Obj)} {m : St} {e : Env} {tm : Array Value} {Γ : Tab} {ρ : Type} {os : List (Nat × Obj)}

theorem run_append_empty {t ty el : TypeId} {i : TypeInfo} (ht : P.underlying t = some (.slice el)) (hi : P.info? el = some i) (w : World) (b : Option Addr) (n c : Nat) (A : Option Addr) (c' : Nat) (h : n ≤ c) :
    (Builtin.append_ #[t, t] ty #[.slice b n c, .slice A 0 c']).run P w = .ok (.slice b n c) w := by
  cases A <;> cases b <;> simp [Builtin.append_, run_underlying ht, sizeOf, typeInfo, hi, Builtin.lenOf, h, Builtin.firstCells, loadCells, loadCellsFrom, storeCells]

theorem append_sound (hΓ : TabOk P Γ) (hok : ObjsOk w0 G0 m os) {T : Nat} {ti : TI} (hf : find Γ T = some ti) {t : Ty} (ht : ti.ty = .sl t) {xs ys : List t.den} {v x : Value} {ty : TypeId}
    (hrow : RowAt m.w m.G ti.elem t xs v) (hx : Src m t ys x) (hcap : xs.length + ys.length ≤ capN)
    (hv : ∀ a n c, v = .slice (some a) n c → w0.heap.size ≤ a.block ∧ a.block < m.w.heap.size ∧ ¬ m.G a.block ∧ ¬ m.H a.block ∧ ∀ i, blk os m i ≠ some a.block) {q : Nat} (hfr : ¬ m.D q) :
    ∃ m', (Builtin.append_ #[T, T] ty #[v, x]).run P m.w = .ok (m'.ν q) m'.w ∧ m.le m' ∧ (∀ i, m'.D i ↔ m.D i ∨ i = q) ∧ (∃ A n c, m'.ν q = .slice A n c) ∧ ObjsOk w0 G0 m' ((q, .row ti.elem t (xs ++ ys)) :: os) := by
  obtain ⟨hu, hpos, tj, _, _, i, z, zs, hi, hsz, hby, hz, hzc, _⟩ := elem_info hΓ hf ht
  obtain ⟨A, c, news, rfl, hnl, hna, hnv, hn1⟩ := hx
  have hzs : z.cells.size = t.size := by
    obtain ⟨h1, h2, tj, h3, h4, i', z', zs', hi', hs', hb', hz', hc', hr'⟩ := elem_info hΓ hf ht
    rw [hi] at hi'
    obtain rfl := Option.some.inj hi'
    rw [hz] at hz'
    obtain rfl := Option.some.inj hz'
    have hq := (hr' m).length
    have hzl : ∀ t : Ty, (zeros t []).length = t.size := by
      intro t
      have key : ∀ (t : Ty) (l : List V), (zeros t l).length = t.size + l.length := by
        intro t
        induction t with
        | pair a b iha ihb => intro l; simp only [zeros, iha, ihb, Ty.size]; omega
        | _ => intro l; simp [zeros, Ty.size]; try omega
      simpa using key t []
    rw [hc', List.size_toArray, ← hq, hzl]
  have hmax : xs.length + ys.length ≤ maxLen := by simp only [capN] at hcap; simp only [maxLen]; omega
  have h63 : ((xs.length + ys.length : Nat) : Int) ≤ 9223372036854775807 := by simp only [capN] at hcap; omega
  have hbytes : (xs.length + ys.length) * i.bytes ≤ 140737488355328 := by
    simp only [capN] at hcap
    have h1 := Nat.mul_le_mul hcap hby
    omega
  have hG : ∀ (w' : World), (∀ b, m.G b → w'.heap[b]? = m.w.heap[b]?) → ∀ b, m.G b → m.G b ∧ w'.heap[b]? = m.w.heap[b]? := fun w' h b hb => ⟨hb, h b hb⟩
  by_cases hy0 : ys.length = 0
  · -- nothing is appended
    have : ys = [] := List.eq_nil_of_length_eq_zero hy0
    subst this
    obtain ⟨m', hle, hw, hn, hν, hok'⟩ := hok.newRow m.w ti.elem t (xs ++ []) v hok.base (fun _ _ => rfl) (fun _ _ => rfl) (Nat.le_refl _) (fun _ _ _ => rfl) (by simpa using hrow) hfr hv
    refine ⟨m', ?_, hle, hn, ?_, hok'⟩
    · rw [hν, hw]
      rcases hrow with ⟨rfl, _⟩ | ⟨b, c', cs, rfl, _, h1, _⟩
      · exact run_append_empty hu hi _ _ _ _ _ _ (Nat.le_refl _)
      · exact run_append_empty hu hi _ _ _ _ _ _ h1
    · rw [hν]
      rcases hrow with ⟨rfl, _⟩ | ⟨b, c', cs, rfl, _, h1, _⟩
      · exact ⟨_, _, _, rfl⟩
      · exact ⟨_, _, _, rfl⟩
  · obtain ⟨ad, rfl, hcells⟩ := hna (by omega)
    -- a row in a new block
    have fresh : ∀ (old : Nat) (flat : List Value), flat.length = xs.length * t.size → (∀ j, j < xs.length → Val m.w m.G t (xs.getD j t.zero) ((flat.drop (j * t.size)).take t.size)) → old < xs.length + ys.length →
        (Builtin.append_ #[T, T] ty #[v, .slice (some ad) ys.length c]).run P m.w = .ok (.slice (some ⟨m.w.heap.size, 0, none⟩) (xs.length + ys.length) (grownCap m.w (xs.length + ys.length) old ti.elem))
          (m.w.drew.alloc (.cells (flat ++ news ++ (Builtin.zeroCells z.cells (grownCap m.w (xs.length + ys.length) old ti.elem - (xs.length + ys.length))).toList).toArray ti.elem)) →
        ∃ m', (Builtin.append_ #[T, T] ty #[v, .slice (some ad) ys.length c]).run P m.w = .ok (m'.ν q) m'.w ∧ m.le m' ∧ (∀ i, m'.D i ↔ m.D i ∨ i = q) ∧ (∃ A n c, m'.ν q = .slice A n c) ∧ ObjsOk w0 G0 m' ((q, .row ti.elem t (xs ++ ys)) :: os) := by
      intro old flat hfl hfv hold hrun
      have hge := grownCap_ge m.w (xs.length + ys.length) old ti.elem
      have hcm := grownCap_le_maxLen m.w (xs.length + ys.length) old ti.elem hmax
      generalize grownCap m.w (xs.length + ys.length) old ti.elem = gc at hrun hge hcm
      generalize hcur : flat ++ news ++ (Builtin.zeroCells z.cells (gc - (xs.length + ys.length))).toList = cur at hrun
      have hheap : ∀ b, b < m.w.heap.size → (m.w.drew.alloc (.cells cur.toArray ti.elem)).heap[b]? = m.w.heap[b]? := fun b hb => Below.heap_alloc m.w.drew _ _ hb
      have hsame : ∀ b, m.G b → m.G b ∧ (m.w.drew.alloc (.cells cur.toArray ti.elem)).heap[b]? = m.w.heap[b]? := fun b hb => ⟨hb, hheap b (hok.liveG b hb)⟩
      have hrow' : RowAt (m.w.drew.alloc (.cells cur.toArray ti.elem)) m.G ti.elem t (xs ++ ys) (.slice (some ⟨m.w.heap.size, 0, none⟩) (xs.length + ys.length) gc) := by
        have hlen : (xs ++ ys).length = xs.length + ys.length := List.length_append
        rw [← hlen]
        refine RowAt.mk (flat := flat ++ news) (heap_alloc_new m.w.drew _) (by omega) hcm ?_ ?_ ?_
        · rw [← hcur]
          simp only [List.length_append, Array.length_toList, size_zeroCells, hzs, hfl, hnl, ← Nat.add_mul]
          congr 1; omega
        · rw [← hcur, hlen]
          have : (xs.length + ys.length) * t.size = (flat ++ news).length := by rw [List.length_append, hfl, hnl, Nat.add_mul]
          rw [this, List.take_left]
        · exact pieces_append hfl hnl (fun j hj => Val.mono hsame _ _ _ (hfv j hj)) (fun j hj => Val.mono hsame _ _ _ (hnv j hj))
      obtain ⟨m', hle, hw, hn, hν, hok'⟩ := hok.newRow _ ti.elem t (xs ++ ys) _ ((hok.base.drew).alloc (by simpa using hok.base.size) _) (fun b hb => (hsame b hb).2) (fun b hb => hheap b (hok.liveH b hb)) (by simp) (fun i b hb => hheap b (hok.out i b hb).2.2.1) hrow' hfr (by
        intro a n c' e1
        simp only [Value.slice.injEq, Option.some.injEq] at e1
        obtain ⟨rfl, _, _⟩ := e1
        refine ⟨hok.base.size, by simp, fun hg => ?_, fun hg => ?_, fun i hi => ?_⟩
        · have := hok.liveG _ hg; simp at this
        · have := hok.liveH _ hg; simp at this
        · have := (hok.out i _ hi).2.2.1; simp at this)
      exact ⟨m', by rw [hν, hw]; exact hrun, hle, hn, ⟨_, _, _, hν⟩, hok'⟩
    rcases hrow with ⟨rfl, rfl⟩ | ⟨b, cc, cs, rfl, hh, h1, h2, h3, hel⟩
    · refine fresh 0 [] (by simp) (fun j hj => absurd hj (by simp)) (by simp; omega) ?_
      have hb0 : ys.length * i.bytes ≤ 281474976710656 := by simp only [List.length_nil, Nat.zero_add] at hbytes; omega
      have hr := run_append_nil (P := P) m.w T ty ti.elem i z hu hi hz ad ys.length c news (by rw [hnl, hsz]) hcells (by omega) (by simp only [List.length_nil, Nat.zero_add] at h63; exact h63) hb0
      simp only [List.length_nil, Nat.zero_add, List.nil_append]
      rw [hr]
      congr 3
      apply Array.ext'
      simp
    · obtain ⟨flat, g1, g2, g3, g4⟩ := flat_of (w := m.w) (sz := t.size) (fun j cs' => Val m.w m.G t (xs.getD j t.zero) cs') b 0 xs.length fun j hj => by
        obtain ⟨cs', hc', hv'⟩ := hel j hj
        exact ⟨cs', by simpa using hc', hv', hv'.length, Val.oneCells (m := m) hv'⟩
      have hcflat : flat = cs.take (xs.length * t.size) := by
        have hcg := (cells_get hh 0 flat).1 g2
        have hle : xs.length * t.size ≤ cs.length := by rw [h3]; exact Nat.mul_le_mul_right _ h1
        apply List.ext_getElem?
        intro q
        by_cases hq : q < flat.length
        · rw [List.getElem?_eq_getElem hq, List.getElem?_take, if_pos (by omega)]
          have := hcg q _ (List.getElem?_eq_getElem hq)
          rw [Nat.zero_add] at this
          exact this.symm
        · rw [List.getElem?_eq_none (by omega), List.getElem?_take, if_neg (by omega)]
      by_cases hroom : xs.length + ys.length ≤ cc
      · -- there is room
        have hfit : xs.length * i.size + news.length ≤ cs.toArray.size := by
          rw [hsz, hnl, List.size_toArray, h3, ← Nat.add_mul]
          exact Nat.mul_le_mul_right _ hroom
        have hr := run_append_room (P := P) m.w T ty ti.elem i hu hi b xs.length cc cs.toArray hh ad ys.length c news (by rw [hnl, hsz]) hcells hn1 hroom hfit
        rw [hsz] at hr
        have hfit' : xs.length * t.size + news.length ≤ cs.length := by rw [hsz] at hfit; simpa using hfit
        obtain ⟨o1, o2, o3, o4, o5⟩ := hv _ _ _ rfl
        simp only at o1 o2 o3 o4 o5
        have hheap : ∀ q, q ≠ b → ∀ ncs, (m.w.setRow b ncs).heap[q]? = m.w.heap[q]? := fun q hq ncs => setRow_other _ _ _ _ hq
        generalize hcur : cs.toArray.toList.take (xs.length * t.size) ++ news ++ cs.toArray.toList.drop (xs.length * t.size + news.length) = cur at hr
        have hnh := setRow_heap m.w b _ cur.toArray _ _ hh
        have hsame : ∀ q, m.G q → m.G q ∧ (m.w.setRow b cur.toArray).heap[q]? = m.w.heap[q]? := fun q hq => ⟨hq, hheap q (fun e => o3 (e ▸ hq)) _⟩
        have hrow' : RowAt (m.w.setRow b cur.toArray) m.G ti.elem t (xs ++ ys) (.slice (some ⟨b, 0, none⟩) (xs.length + ys.length) cc) := by
          have hlen : (xs ++ ys).length = xs.length + ys.length := List.length_append
          rw [← hlen]
          refine RowAt.mk (flat := flat ++ news) hnh (by omega) h2 ?_ ?_ ?_
          · rw [← hcur, splice_length _ _ _ hfit']; exact h3
          · rw [← hcur, hlen, hcflat]
            have hl2 : (cs.take (xs.length * t.size) ++ news).length = (xs.length + ys.length) * t.size := by
              rw [List.length_append, ← hcflat, g1, hnl, Nat.add_mul]
            rw [← hl2, List.take_left]
          · exact pieces_append g1 hnl (fun j hj => Val.mono hsame _ _ _ (g3 j hj)) (fun j hj => Val.mono hsame _ _ _ (hnv j hj))
        obtain ⟨m', hle, hw, hn, hν, hok'⟩ := hok.newRow _ ti.elem t (xs ++ ys) _ (below_setRow hok.base o1 _) (fun q hq => (hsame q hq).2) (fun q hq => hheap q (fun e => o4 (e ▸ hq)) _) (by simp [World.setRow]) (fun i q hq => hheap q (fun e => o5 i (e ▸ hq)) _) hrow' hfr (by
          intro a n c' e1
          simp only [Value.slice.injEq, Option.some.injEq] at e1
          obtain ⟨rfl, _, _⟩ := e1
          exact ⟨o1, by simpa [World.setRow] using o2, o3, o4, o5⟩)
        exact ⟨m', by rw [hν, hw]; exact hr, hle, hn, ⟨_, _, _, hν⟩, hok'⟩
      · -- it grows
        refine fresh cc flat g1 g3 (by omega) ?_
        have hr := run_append_grow (P := P) m.w T ty ti.elem i z hu hi hz ⟨b, 0, none⟩ xs.length cc flat (by rw [g1, hsz]) (fun j u hu' => by rw [addr_add]; exact g2 j u hu') ad ys.length c news (by rw [hnl, hsz]) hcells (by omega) h63 (growslice_fits (by omega) hbytes)
        rw [hr]
        congr 3
        apply Array.ext'
        simp
end
end Go.Ev
end

section
/- Made rows, literals. -/
set_option linter.unusedSimpArgs false
set_option linter.unusedVariables false
namespace Go.Ev
open Go.RowKit (Below)

theorem zeros_append : ∀ (t : Ty) (l : List V), zeros t l = zeros t [] ++ l
  | .int _, _ => rfl
  | .bool, _ => rfl
  | .str, _ => rfl
  | .sl _, _ => rfl
  | .unit, _ => rfl
  | .any, _ => rfl
  | .pair a b, l => by simp only [zeros]; rw [zeros_append a (zeros b l), zeros_append b l, zeros_append a (zeros b []), List.append_assoc]
theorem zeros_length (t : Ty) : (zeros t []).length = t.size := by
  have key : ∀ (t : Ty) (l : List V), (zeros t l).length = t.size + l.length := by
    intro t
    induction t with
    | pair a b iha ihb => intro l; simp only [zeros, iha, ihb, Ty.size]; omega
    | _ => intro l; simp [zeros, Ty.size]; try omega
  simpa using key t []
theorem zero_val {m : St} : ∀ {t : Ty} {cs : List Value}, R2 (Lv m) (zeros t []) cs → Val m.w m.G t t.zero cs
  | .int _, [_], ⟨h, _⟩ => by simp only [Lv] at h; subst h; rfl
  | .bool, [_], ⟨h, _⟩ => by simp only [Lv] at h; subst h; rfl
  | .str, [_], ⟨⟨s, h, e⟩, _⟩ => ⟨s, by rw [h], e⟩
  | .sl t, [v], ⟨h, _⟩ => by
    simp only [Lv] at h
    subst h
    exact ⟨none, 0, 0, rfl, rfl, Nat.le_refl _, fun j hj => absurd hj (by simp [Ty.zero])⟩
  | .unit, [], _ => rfl
  | .any, [v], ⟨h, _⟩ => ⟨v, rfl, h⟩
  | .pair a b, cs, h => by
    simp only [zeros] at h
    rw [zeros_append] at h
    obtain ⟨c1, c2, e, h1, h2⟩ := h.split
    exact ⟨c1, c2, e, zero_val h1, zero_val h2⟩

/-- One part of a literal goes in. -/
theorem fill_step {place : Nat → Option (Nat × Nat)} {cells : List Value} {i off size : Nat} {v : Value} {vs : List Value} {rest : List (Nat × Value)} (hp : place i = some (off, size)) (hv : v.cells = vs.toArray) (hs : vs.length = size) (hfit : off + vs.length ≤ cells.length) :
    Instr.fill place cells.toArray ((i, v) :: rest) = Instr.fill place (cells.take off ++ vs ++ cells.drop (off + vs.length)).toArray rest := by
  have e1 : ¬ (v.cells.size ≠ size || off + v.cells.size > cells.toArray.size) = true := by
    rw [hv]
    simp only [List.size_toArray, ne_eq, decide_not, gt_iff_lt, Bool.or_eq_true, Bool.not_eq_eq_eq_not, Bool.not_true, decide_eq_false_iff_not, decide_eq_true_eq]
    omega
  have key : (v.cells.zipIdx.foldl (fun cs (x : Value × Nat) => cs.setIfInBounds (off + x.2) x.1) cells.toArray) = (cells.take off ++ vs ++ cells.drop (off + vs.length)).toArray := by
    rw [← Array.foldl_toList, Array.toList_zipIdx, hv]
    obtain ⟨h1, h2⟩ := Great.foldl_set off vs 0 cells.toArray
    apply Array.ext_getElem?
    intro k
    have h2 := h2 k
    refine Eq.trans h2 ?_
    simp only [List.getElem?_toArray, Nat.add_zero, List.size_toArray]
    rw [get_splice _ _ _ hfit]
    by_cases q1 : k < off
    · rw [if_neg (by omega), if_pos q1]
    · rw [if_neg q1]
      by_cases q2 : k < off + vs.length
      · rw [if_pos ⟨by omega, q2, by omega⟩, if_pos q2]
      · rw [if_neg (by omega), if_neg q2]
  conv => lhs; unfold Instr.fill
  simp only [hp]
  rw [if_neg e1, key]

theorem madeCells_piece (z : List Value) (hz : 0 < z.length) (n j : Nat) (hj : j < n) : (((madeCells z.toArray (n * z.length)).toList.drop (j * z.length)).take z.length) = z := by
  have hle : (j + 1) * z.length ≤ n * z.length := Nat.mul_le_mul_right _ hj
  rw [Nat.add_mul, Nat.one_mul] at hle
  apply List.ext_getElem?
  intro q
  rw [List.getElem?_take]
  by_cases hq : q < z.length
  · rw [if_pos hq, List.getElem?_drop]
    have h1 : j * z.length + q < n * z.length := by omega
    have h2 : (j * z.length + q) % z.length = q := by rw [Nat.mul_comm, Nat.mul_add_mod, Nat.mod_eq_of_lt hq]
    simp [madeCells, h1, h2, hq]
  · rw [if_neg hq, List.getElem?_eq_none (by omega)]

section
variable {P : Program} {w0 : World} {G0 : Nat → Prop} {N : Nat} {F : List (Nat × Obj)} {m : St} {e : Env} {tm : Array Value} {Γ : Tab} {ρ : Type} {os : List (Nat × Obj)}

/-- A row in a new block. -/
theorem Rel.freshRow (hR : Rel w0 G0 N F m e tm) {T : Nat} {t : Ty} {xs : List t.den} {cur : List Value} {c : Nat} (hc : xs.length ≤ c) (hm : c ≤ maxLen) (hl : cur.length = c * t.size)
    (hv : ∀ j, j < xs.length → Val m.w m.G t (xs.getD j t.zero) ((cur.drop (j * t.size)).take t.size)) (hfr : ¬ m.D e.next) :
    ∃ m', Stp m e m' (e.new (.row T t xs)) ∧ m'.w = m.w.alloc (.cells cur.toArray T) ∧ Rel w0 G0 N F m' (e.new (.row T t xs)) tm ∧ Lv m' (.row e.next) (.slice (some ⟨m.w.heap.size, 0, none⟩) xs.length c) := by
  have hok := hR.ok
  have hheap : ∀ b, b < m.w.heap.size → (m.w.alloc (.cells cur.toArray T)).heap[b]? = m.w.heap[b]? := fun b hb => Below.heap_alloc m.w _ _ hb
  have hsame : ∀ b, m.G b → m.G b ∧ (m.w.alloc (.cells cur.toArray T)).heap[b]? = m.w.heap[b]? := fun b hb => ⟨hb, hheap b (hok.liveG b hb)⟩
  have hrow : RowAt (m.w.alloc (.cells cur.toArray T)) m.G T t xs (.slice (some ⟨m.w.heap.size, 0, none⟩) xs.length c) := by
    refine RowAt.mk (flat := cur.take (xs.length * t.size)) (heap_alloc_new m.w _) hc hm hl rfl fun j hj => ?_
    have hle : (j + 1) * t.size ≤ xs.length * t.size := Nat.mul_le_mul_right _ hj
    rw [Nat.add_mul, Nat.one_mul] at hle
    have e1 : ((cur.take (xs.length * t.size)).drop (j * t.size)).take t.size = (cur.drop (j * t.size)).take t.size := by
      rw [List.drop_take, List.take_take, Nat.min_eq_left (by omega)]
    rw [e1]
    exact Val.mono hsame _ _ _ (hv j hj)
  obtain ⟨m', hle, hw, hn, hν, hok'⟩ := hok.newRow _ T t xs _ (hok.base.alloc hok.base.size _) (fun b hb => (hsame b hb).2) (fun b hb => hheap b (hok.liveH b hb)) (by simp) (fun i b hb => hheap b (hok.out i b hb).2.2.1) hrow hfr (by
    intro a n c' e1
    simp only [Value.slice.injEq, Option.some.injEq] at e1
    obtain ⟨rfl, _, _⟩ := e1
    refine ⟨hok.base.size, by simp, fun hg => ?_, fun hg => ?_, fun i hi => ?_⟩
    · have := hok.liveG _ hg; simp at this
    · have := hok.liveH _ hg; simp at this
    · have := (hok.out i _ hi).2.2.1; simp at this)
  exact ⟨m', .new hle hn rfl, hw, hR.push hfr hle _ hok', (hn _).2 (.inr rfl), hν.symm, _, _, _, rfl⟩

theorem makeSlice_sound (hΓ : TabOk P Γ) (hR : Rel w0 G0 N F m e tm) {T : Nat} {ti tj : TI} (hf : find Γ T = some ti) (hu : P.underlying T = some (.slice ti.elem)) (hj : find Γ ti.elem = some tj) (hpos : 0 < tj.ty.size) (k j : IntKind) {n : Int} (h0 : 0 ≤ n) (hcap : n ≤ capN) (hfr : ¬ m.D e.next) :
    ∃ m' v, (Instr.makeSlice T (.int k n) (.int j n)).run P m.w = .ok v m'.w ∧ Stp m e m' (e.new (.row ti.elem tj.ty (List.replicate n.toNat tj.ty.zero))) ∧ Rel w0 G0 N F m' (e.new (.row ti.elem tj.ty (List.replicate n.toNat tj.ty.zero))) tm ∧ Lv m' (.row e.next) v := by
  have hE := hΓ _ tj hj
  obtain ⟨i, z, cs, hi, hs, hb, hz, hc, ha, hr⟩ := hE.info
  have hsm := hE.small
  have hcl : cs.length = tj.ty.size := by rw [← (hr m).length, zeros_length]
  have hrun := run_make (P := P) m.w T ti.elem i z hu hi hz k j n n h0 (Int.le_refl _) (by
    simp only [capN] at hcap
    have h1 : i.bytes * n.toNat ≤ 1024 * 68719476736 := Nat.mul_le_mul (by omega) (by omega)
    have h2 : ((i.bytes * n.toNat : Nat) : Int) ≤ ((1024 * 68719476736 : Nat) : Int) := Int.ofNat_le.2 h1
    rw [Int.natCast_mul, Int.toNat_of_nonneg h0] at h2
    omega) (by simp only [capN] at hcap; omega)
  have hval : Val m.w m.G tj.ty tj.ty.zero cs := zero_val (hr m)
  obtain ⟨m', hle, hw, hR', hv⟩ := hR.freshRow (T := ti.elem) (t := tj.ty) (xs := List.replicate n.toNat tj.ty.zero) (cur := (madeCells cs.toArray (n.toNat * cs.length)).toList) (c := n.toNat) (by simp) (by simp only [capN] at hcap; simp only [maxLen]; omega) (by simp [size_madeCells, hcl]) (by
    intro q hq
    simp only [List.length_replicate] at hq
    rw [← hcl, madeCells_piece cs (by omega) _ _ hq]
    have e1 : (List.replicate n.toNat tj.ty.zero).getD q tj.ty.zero = tj.ty.zero := by simp [List.getD_eq_getElem?_getD, List.getElem?_replicate, hq]
    rw [e1]
    exact hval) hfr
  refine ⟨m', _, ?_, hle, hR', hv⟩
  rw [hrun, hw, hc, hs, ← hcl]
  simp
end
end Go.Ev
end

section
/- Literals of slices and structs, closures, parts of tuples. -/
set_option linter.unusedSimpArgs false
set_option linter.unusedVariables false
namespace Go.Ev
open Go.RowKit (Below)

theorem asVal_cells {m : St} {t : Ty} {x : t.den} {cs : List Value} {v : Value} (h : Val m.w m.G t x cs) (ha : AsVal t cs v) : v.cells = cs.toArray := by
  unfold AsVal at ha
  cases hg : t.isAgg with
  | true => simp only [hg] at ha; subst ha; rfl
  | false =>
    simp only [hg] at ha
    subst ha
    have he := Val.enc (m := m) h
    cases hE : enc t x [] with
    | nil => rw [hE] at he; exact absurd he (by simp [R2])
    | cons a l => rw [hE] at he; exact he.1.oneCell.2

theorem flatMap_piece {sz : Nat} : ∀ (vs : List Value), (∀ v ∈ vs, v.cells.size = sz) → ∀ j v, vs[j]? = some v → (((vs.flatMap fun v => v.cells.toList).drop (j * sz)).take sz) = v.cells.toList
  | [], _, j, v, h => by simp at h
  | u :: vs, hv, 0, v, h => by
    simp only [List.getElem?_cons_zero, Option.some.injEq] at h
    subst h
    have := hv u List.mem_cons_self
    rw [List.flatMap_cons, Nat.zero_mul, List.drop_zero, List.take_append_of_le_length (by simp [this]), List.take_of_length_le (by simp [this])]
  | u :: vs, hv, j + 1, v, h => by
    have := hv u List.mem_cons_self
    have e : (j + 1) * sz = u.cells.toList.length + j * sz := by rw [Array.length_toList, this, Nat.add_mul, Nat.one_mul, Nat.add_comm]
    rw [List.flatMap_cons, e, ← List.drop_drop, List.drop_left]
    exact flatMap_piece vs (fun v h => hv v (List.mem_cons_of_mem _ h)) j v (by simpa using h)

section
variable {P : Program} {w0 : World} {G0 : Nat → Prop} {N : Nat} {F : List (Nat × Obj)} {m : St} {e : Env} {a : Act} {Γ : Tab} {ρ : Type} {os : List (Nat × Obj)}

theorem elems_sound {t : Ty} (hR : Rel w0 G0 N F m e a.tmps) : ∀ (l : List (Nat × Operand)) (n : Nat) (xs : List t.den), evElems t e n l = some xs →
    ∃ vs : List Value, (l.map fun x => (x.1, a.eval x.2)) = (vs.zipIdx n).map (fun x => (x.2, x.1)) ∧ vs.length = xs.length ∧ l.length = xs.length ∧
      ∀ j, j < xs.length → ∃ cs v, vs[j]? = some v ∧ v.cells = cs.toArray ∧ Val m.w m.G t (xs.getD j t.zero) cs
  | [], n, xs, h => by
    simp only [evElems, Option.some.injEq] at h
    subst h
    exact ⟨[], rfl, rfl, rfl, fun j hj => absurd hj (by simp)⟩
  | (i, o) :: r, n, xs, h => by
    simp only [evElems] at h
    cases hi : Nat.beq i n with
    | false => simp [hi] at h
    | true =>
      have hin := Nat.eq_of_beq_eq_true hi
      subst hin
      simp only [hi] at h
      cases hv : e.val o with
      | none => simp [hv] at h
      | some s =>
        simp only [hv] at h
        cases hd : decAll true e.objs t s with
        | none => simp [hd] at h
        | some x =>
          cases hr : evElems t e (i + 1) r with
          | none => simp [hd, hr] at h
          | some l =>
            simp only [hd, hr, Option.some.injEq] at h
            subst h
            obtain ⟨vs, e1, e2, e2', e3⟩ := elems_sound hR r (i + 1) l hr
            obtain ⟨cs, hval, has⟩ := decAll_val (Gd := m.G) (fun i o hi => (hR.obj i o hi).2) (fun _ h => h) (fun h => by simp at h) hd (val_sv hR hv)
            refine ⟨a.eval o :: vs, ?_, by simp [e2], by simp [e2'], fun j hj => ?_⟩
            · rw [List.map_cons, e1]
              rfl
            · cases j with
              | zero => exact ⟨cs, _, rfl, asVal_cells hval has, by simpa using hval⟩
              | succ j =>
                obtain ⟨cs', v', h1, h2, h3⟩ := e3 j (by simpa using hj)
                exact ⟨cs', v', by simpa using h1, h2, by simpa using h3⟩

theorem buildSlice_sound (hΓ : TabOk P Γ) (hR : Rel w0 G0 N F m e a.tmps) {T : Nat} {ti tj : TI} (hf : find Γ T = some ti) (hu : P.underlying T = some (.slice ti.elem)) (hj : find Γ ti.elem = some tj) (hpos : 0 < tj.ty.size) (n : Nat) (parts : Array (Nat × Operand)) {xs : List tj.ty.den}
    (h : evElems tj.ty (e.freeze (partIds e parts.toList)) 0 parts.toList = some xs) (hn : Nat.beq (lenN parts.toList) n = true) (hs : Nat.ble (n * tj.ty.size) 16777216 = true) (hfr : ¬ m.D e.next) :
    ∃ m' v, (Instr.buildSlice T n (parts.map fun (i, x) => (i, a.eval x))).run P m.w = .ok v m'.w ∧ Stp m e m' ((e.freeze (partIds e parts.toList)).new (.row ti.elem tj.ty xs)) ∧ Rel w0 G0 N F m' ((e.freeze (partIds e parts.toList)).new (.row ti.elem tj.ty xs)) a.tmps ∧ Lv m' (.row (e.freeze (partIds e parts.toList)).next) v := by
  obtain ⟨m1, l1, w1, hD1, hR1⟩ := hR.freeze (partIds e parts.toList)
  obtain ⟨vs, e1, e2, e2', e3⟩ := elems_sound hR1 parts.toList 0 xs h
  have hlen : xs.length = n := by
    have := Nat.eq_of_beq_eq_true hn
    rw [lenN_eq] at this
    omega
  have hsm := Nat.le_of_ble_eq_true hs
  have hE := hΓ _ tj hj
  obtain ⟨i, z, cs, hi, hsz, hb, hz, hc, ha, hr⟩ := hE.info
  have hvs : ∀ v ∈ vs, v.cells.size = tj.ty.size := by
    intro v hv
    obtain ⟨j, hj, rfl⟩ := List.mem_iff_getElem.1 hv
    obtain ⟨cs', v', h1, h2, h3⟩ := e3 j (by omega)
    rw [List.getElem?_eq_getElem hj, Option.some.injEq] at h1
    rw [h1, h2, List.size_toArray, h3.length]
  have hmap : (parts.map fun (i, x) => (i, a.eval x)).toList = (vs.zipIdx 0).map fun x => (x.2, x.1) := by
    rw [Array.toList_map, ← e1]
  have hfl : (vs.flatMap fun v => v.cells.toList).length = vs.length * tj.ty.size := by
    clear e1 e2 e2' e3 hmap
    induction vs with
    | nil => simp
    | cons v vs ih =>
      rw [List.flatMap_cons, List.length_append, ih fun u hu => hvs u (List.mem_cons_of_mem _ hu), Array.length_toList, hvs v List.mem_cons_self, List.length_cons, Nat.add_mul, Nat.one_mul, Nat.add_comm]
  have hcl : cs.length = tj.ty.size := by rw [← (hr m).length, zeros_length]
  have hzs : z.cells.size = tj.ty.size := by rw [hc, List.size_toArray, hcl]
  have hrun : (Instr.buildSlice T n (parts.map fun (i, x) => (i, a.eval x))).run P m1.w = .ok (.slice (some ⟨m1.w.heap.size, 0, none⟩) n n) (m1.w.alloc (.cells (vs.flatMap fun v => v.cells.toList).toArray ti.elem)) := by
    by_cases h0 : n = 0
    · subst h0
      have : vs = [] := List.eq_nil_of_length_eq_zero (by omega)
      subst this
      have hp : (parts.map fun (i, x) => (i, a.eval x)).toList = [] := by rw [hmap]; rfl
      have hp' : (parts.map fun (i, x) => (i, a.eval x)) = #[] := by
        apply Array.ext'
        rw [hp]
      rw [hp']
      simp [Instr.buildSlice, run_underlying hu, sizeOf, typeInfo, hi, newRow, Instr.fill, Array.range_zero']
    · refine run_buildSlice m1.w T ti.elem n _ _ i z hu hi hz (by rw [hsz]; omega) (by rw [hsz]; intro h; rcases Nat.mul_eq_zero.1 h with h | h <;> omega) ?_
      rw [hmap, hsz]
      exact Great.fill_whole hpos vs _ hvs (by simp; rw [← hlen, e2])
  obtain ⟨m', hle, hw, hR', hv⟩ := hR1.freshRow (T := ti.elem) (t := tj.ty) (xs := xs) (cur := vs.flatMap fun v => v.cells.toList) (c := n) (by omega) (by
    have : n * 1 ≤ n * tj.ty.size := Nat.mul_le_mul_left _ hpos
    simp only [maxLen]; omega) (by rw [hfl, e2, hlen]) (by
    intro j hj
    obtain ⟨cs', v', h1, h2, h3⟩ := e3 j hj
    rw [flatMap_piece vs hvs j v' h1, h2]
    exact h3) (by rw [hD1]; exact hfr)
  refine ⟨m', _, ?_, ⟨l1.trans hle.le, fun i hi => ?_, .inr rfl, rfl⟩, hR', hv⟩
  case refine_2 =>
    have := hle.D i hi
    rw [hD1] at this
    exact this
  rw [← w1, hrun, hw, hlen]

theorem places_of : ∀ {fs : List Field} {ds ss : List Nat}, fieldsOk P fs ds ss = true → ∃ places : List (Nat × Nat), fs.mapM (fun f => (P.info? f.type).map fun i => (f.offset, i.size)) = some places ∧ ∀ i d s, nth ds i = some d → nth ss i = some s → places[i]? = some (d, s)
  | [], [], [], _ => ⟨[], by simp, fun i d s h => by cases i <;> simp [nth] at h⟩
  | f :: fs, d :: ds, s :: ss, h => by
    simp only [fieldsOk, Bool.and_eq_true] at h
    obtain ⟨⟨h1, h2⟩, h3⟩ := h
    obtain ⟨pl, e1, e2⟩ := places_of h3
    cases hj : P.info? f.type with
    | none => simp [hj] at h2
    | some j =>
      simp only [hj, Bool.and_eq_true] at h2
      have ed := Nat.eq_of_beq_eq_true h1
      have es := Nat.eq_of_beq_eq_true h2.1
      subst ed; subst es
      refine ⟨(f.offset, j.size) :: pl, by simp [hj, e1], fun i d s g1 g2 => ?_⟩
      cases i with
      | zero => simp only [nth, Option.some.injEq] at g1 g2; subst g1; subst g2; rfl
      | succ i => simpa using e2 i d s (by simpa [nth] using g1) (by simpa [nth] using g2)
  | [], _ :: _, _, h => by simp [fieldsOk] at h
  | [], [], _ :: _, h => by simp [fieldsOk] at h
  | _ :: _, [], _, h => by simp [fieldsOk] at h
  | _ :: _, _ :: _, [], h => by simp [fieldsOk] at h

theorem evBuild_sound (hR : Rel w0 G0 N F m e a.tmps) {ti : TI} {place : Nat → Option (Nat × Nat)} (hp : ∀ i d s, nth ti.offs i = some d → nth ti.sizes i = some s → place i = some (d, s)) :
    ∀ (l : List (Nat × Operand)) (acc : List V) (cs : List Value) (r : List V), evBuild ti e l acc = some r → R2 (Lv m) acc cs →
      ∃ cs', Instr.fill place cs.toArray (l.map fun x => (x.1, a.eval x.2)) = some cs'.toArray ∧ R2 (Lv m) r cs'
  | [], acc, cs, r, h, hc => by
    simp only [evBuild, Option.some.injEq] at h
    subst h
    exact ⟨cs, rfl, hc⟩
  | (i, o) :: l, acc, cs, r, h, hc => by
    simp only [evBuild] at h
    cases h1 : nth ti.offs i with
    | none => simp [h1] at h
    | some off =>
      cases h2 : nth ti.sizes i with
      | none => simp [h1, h2] at h
      | some sz =>
        cases h3 : e.val o with
        | none => simp [h1, h2, h3] at h
        | some v =>
          simp only [h1, h2, h3] at h
          cases h4 : v.isTup with
          | true => simp [h4] at h
          | false =>
            cases h5 : Nat.beq sz (lenN v.cells) with
            | false => simp [h4, h5] at h
            | true =>
              cases h6 : Nat.ble (off + lenN v.cells) (lenN acc) with
              | false => simp [h4, h5, h6] at h
              | true =>
                simp only [h4, h5, h6] at h
                obtain ⟨vs, hvc, hvr⟩ := (val_sv hR h3).cells h4
                have e5 := Nat.eq_of_beq_eq_true h5
                have e6 := Nat.le_of_ble_eq_true h6
                rw [lenN_eq] at e5
                rw [lenN_eq, lenN_eq] at e6
                have hl := hvr.length
                have hcl := hc.length
                have hpst := R2.paste hc hvr (n := off) e6
                obtain ⟨cs', g1, g2⟩ := evBuild_sound hR hp l _ _ r h hpst
                refine ⟨cs', ?_, g2⟩
                rw [List.map_cons]
                rw [fill_step (hp i off sz h1 h2) hvc (by omega) (by omega)]
                exact g1

theorem build_sound (hΓ : TabOk P Γ) (hR : Rel w0 G0 N F m e a.tmps) {T : Nat} {ti : TI} (hf : find Γ T = some ti) (h0 : ti.elem = 0) (ha : ti.ty.isAgg = true) (parts : Array (Nat × Operand)) {l : List V} (h : evBuild ti e parts.toList (zeros ti.ty []) = some l) :
    ∃ v, (Instr.build T (parts.map fun (i, x) => (i, a.eval x))).run P m.w = .ok v m.w ∧ Sv m (.agg l) v := by
  have hT := hΓ T ti hf
  obtain ⟨i, z, cs, hi, hs, hb, hz, hc, has, hr⟩ := hT.info
  obtain ⟨d, hu, hrow, hfs⟩ := hT.under
  rcases hfs ha with ⟨fs, rfl, hok, _⟩ | ⟨_, _, _, hne, _⟩
  case inr => exact absurd h0 hne
  obtain ⟨places, hpl, hpi⟩ := places_of hok
  obtain ⟨cs', g1, g2⟩ := evBuild_sound hR (place := (places.toArray[·]?)) (fun i d s h1 h2 => by simpa using hpi i d s h1 h2) parts.toList _ cs l h (hr m)
  refine ⟨.agg cs'.toArray, run_build m.w T _ _ ?_, cs', rfl, g2⟩
  have hmap : (parts.map fun (i, x) => (i, a.eval x)).toList = parts.toList.map fun x => (x.1, a.eval x.2) := by
    rw [Array.toList_map]
  simp only [Program.built, hi, hu, hz, hpl, hmap, hc]
  exact g1

theorem evBuildA_sound (hR : Rel w0 G0 N F m e a.tmps) {sz : Nat} :
    ∀ (l : List (Nat × Operand)) (acc : List V) (cs : List Value) (r : List V), evBuildA sz e l acc = some r → R2 (Lv m) acc cs →
      ∃ cs', Instr.fill (fun i => some (i * sz, sz)) cs.toArray (l.map fun x => (x.1, a.eval x.2)) = some cs'.toArray ∧ R2 (Lv m) r cs'
  | [], acc, cs, r, h, hc => by
    simp only [evBuildA, Option.some.injEq] at h
    subst h
    exact ⟨cs, rfl, hc⟩
  | (i, o) :: l, acc, cs, r, h, hc => by
    simp only [evBuildA] at h
    cases h3 : e.val o with
    | none => simp [h3] at h
    | some v =>
      simp only [h3] at h
      cases h4 : v.isTup with
      | true => simp [h4] at h
      | false =>
        cases h5 : Nat.beq sz (lenN v.cells) with
        | false => simp [h4, h5] at h
        | true =>
          cases h6 : Nat.ble (i * sz + lenN v.cells) (lenN acc) with
          | false => simp [h4, h5, h6] at h
          | true =>
            simp only [h4, h5, h6] at h
            obtain ⟨vs, hvc, hvr⟩ := (val_sv hR h3).cells h4
            have e5 := Nat.eq_of_beq_eq_true h5
            have e6 := Nat.le_of_ble_eq_true h6
            rw [lenN_eq] at e5
            rw [lenN_eq, lenN_eq] at e6
            have hl := hvr.length
            have hcl := hc.length
            have hpst := R2.paste hc hvr (n := i * sz) e6
            obtain ⟨cs', g1, g2⟩ := evBuildA_sound hR l _ _ r h hpst
            refine ⟨cs', ?_, g2⟩
            rw [List.map_cons]
            rw [fill_step (place := fun i => some (i * sz, sz)) (i := i) (off := i * sz) (size := sz) rfl hvc (by omega) (by omega)]
            exact g1
theorem buildA_sound (hΓ : TabOk P Γ) (hR : Rel w0 G0 N F m e a.tmps) {T : Nat} {ti tj : TI} (hf : find Γ T = some ti) (h0 : ti.elem ≠ 0) (hj : find Γ ti.elem = some tj) (ha : ti.ty.isAgg = true) (parts : Array (Nat × Operand)) {l : List V} (h : evBuildA tj.ty.size e parts.toList (zeros ti.ty []) = some l) :
    ∃ v, (Instr.build T (parts.map fun (i, x) => (i, a.eval x))).run P m.w = .ok v m.w ∧ Sv m (.agg l) v := by
  have hT := hΓ T ti hf
  obtain ⟨i, z, cs, hi, hs, hb, hz, hc, has, hr⟩ := hT.info
  obtain ⟨d, hu, hrow, hfs⟩ := hT.under
  rcases hfs ha with ⟨_, _, _, he⟩ | ⟨n, tj', rfl, _, _, hj', hty⟩
  · exact absurd he h0
  · obtain ⟨ie, _, _, hie, hse, _⟩ := (hΓ _ tj hj).info
    obtain ⟨cs', g1, g2⟩ := evBuildA_sound hR parts.toList _ cs l h (hr m)
    refine ⟨.agg cs'.toArray, run_build m.w T _ _ ?_, cs', rfl, g2⟩
    have hmap : (parts.map fun (i, x) => (i, a.eval x)).toList = parts.toList.map fun x => (x.1, a.eval x.2) := by
      rw [Array.toList_map]
    simp only [Program.built, hi, hu, hz, hie, hmap, hc, hse]
    exact g1
theorem intsOf_get {k : IntKind} : ∀ {l : List V} {xs : List Int} {cs : List Value}, intsOf k l = some xs → R2 (Lv m) l cs → xs.length = l.length ∧ ∀ j, j < xs.length → cs[j]? = some (.int k (xs.getD j 0))
  | [], xs, cs, h, hr => by
    simp only [intsOf, Option.some.injEq] at h
    subst h
    exact ⟨rfl, fun j hj => by simp at hj⟩
  | v :: r, xs, cs, h, hr => by
    cases cs with
    | nil => exact absurd hr (by simp [R2])
    | cons c cs =>
      obtain ⟨h1, h2⟩ := hr
      cases v with
      | i j n =>
        simp only [intsOf] at h
        cases hk : kEq k j with
        | false => simp [hk] at h
        | true =>
          have := kEq_eq hk
          subst this
          cases hl : intsOf k r with
          | none => simp [hk, hl] at h
          | some l =>
            simp only [hk, hl, Option.some.injEq] at h
            subst h
            obtain ⟨g1, g2⟩ := intsOf_get hl h2
            refine ⟨by simp [g1], fun q hq => ?_⟩
            cases q with
            | zero => have h1 : c = .int k n := h1; subst h1; rfl
            | succ q => simpa using g2 q (by simpa using hq)
      | _ => simp [intsOf] at h
theorem indexArr_sound (hΓ : TabOk P Γ) {T : Nat} {ti : TI} (hf : find Γ T = some ti) {ρ : Type} {v : SV} {x : Value} {kk : IntKind} {n : Int} {K : SV → Env → Option ρ} {r : ρ} (h : evIndexArr Γ ti v n e K = some r) (hv : Sv m v x) :
    ∃ z k q, (Instr.index T x (.int kk n)).run P m.w = .ok z m.w ∧ Sv m (.one (.i k q)) z ∧ K (.one (.i k q)) e = some r := by
  unfold evIndexArr at h
  cases v with
  | one => simp at h
  | tup => simp at h
  | agg l =>
    simp only at h
    cases h0 : Nat.beq ti.elem 0 with
    | true => rw [h0] at h; simp at h
    | false =>
     cases hag : ti.ty.isAgg with
     | false => rw [h0, hag] at h; simp at h
     | true =>
      rw [h0, hag] at h
      simp only at h
      have hne : ti.elem ≠ 0 := fun e => by rw [e] at h0; simp at h0
      cases hj : find Γ ti.elem with
      | none => rw [hj] at h; simp at h
      | some tj =>
        rw [hj] at h
        simp only at h
        cases ht : tj.ty with
        | int k =>
          rw [ht] at h
          simp only at h
          cases hi : intsOf k l with
          | none => rw [hi] at h; simp at h
          | some xs =>
            cases hb : Nat.beq (lenN l) ti.ty.size with
            | false => rw [hi, hb] at h; simp at h
            | true =>
              rw [hi, hb] at h
              simp only at h
              obtain ⟨g0, h⟩ := chk_dec h
              obtain ⟨g1, h⟩ := chk_dec h
              obtain ⟨cs, rfl, hr⟩ := hv
              obtain ⟨k1, k2⟩ := intsOf_get hi hr
              have hlen := Nat.eq_of_beq_eq_true hb
              rw [lenN_eq] at hlen
              have hT := hΓ T ti hf
              obtain ⟨d, hu, hrow, hfs⟩ := hT.under
              rcases hfs hag with ⟨_, _, _, he⟩ | ⟨len, tj', rfl, _, _, hj', hty⟩
              · exact absurd he hne
              · rw [hj] at hj'
                obtain rfl := Option.some.inj hj'
                have hsz : ∀ n, (arrTy n (.int k)).size = n := fun n => by
                  induction n with
                  | zero => rfl
                  | succ n ih =>
                    show 1 + (arrTy n (.int k)).size = n + 1
                    rw [ih]; omega
                have hln : xs.length = len := by rw [k1, hlen, hty, ht, hsz]
                obtain ⟨ie, _, _, hie, hse, _⟩ := (hΓ _ tj hj).info
                have hse1 : ie.size = 1 := by rw [hse, ht]; rfl
                have hq := k2 n.toNat (by omega)
                have hlt : n < len := by omega
                have hag2 : (isAgg ti.elem).run P m.w = .ok false m.w := by
                  have := run_isAgg hΓ hj m.w
                  rw [ht] at this
                  exact this
                refine ⟨.int k (xs.getD n.toNat 0), k, _, ?_, rfl, h⟩
                simp only [Instr.index, asIntOf, Sem.run_bind, Sem.run_pure, Result.andThen_ok, run_underlying hu, g0, hlt, and_self, if_true, run_sizeOf m.w hie, hse1, Nat.mul_one, part, hag2, Bool.false_eq_true, if_false]
                have hco : P.cellsOf ti.elem = 1 := by simp [Program.cellsOf, hie, hse1]
                have hq' : cs[n.toNat]? = some (Value.int k (xs[n.toNat]?.getD 0)) := by rw [hq, List.getD_eq_getElem?_getD]
                simp [hco, hq']
        | _ => rw [ht] at h; simp at h

theorem caps_sound (hR : Rel w0 G0 N F m e a.tmps) : ∀ (l : List Operand) (cs : List Cap), evCaps e l = some cs → R2 (Cp m) cs (l.map a.eval)
  | [], cs, h => by simp only [evCaps, Option.some.injEq] at h; subst h; trivial
  | o :: r, cs, h => by
    simp only [evCaps] at h
    cases hr : evCaps e r with
    | none => simp [hr] at h
    | some l =>
      have ih := caps_sound hR r l hr
      simp only [hr] at h
      cases ho : e.one o with
      | none => simp [ho] at h
      | some x =>
        have hx := one_lv hR ho
        cases x with
        | loc id off =>
          cases off with
          | succ => simp [ho] at h
          | zero =>
            simp only [ho, Option.some.injEq] at h
            subst h
            exact ⟨hx, ih⟩
        | el t y off =>
          cases off with
          | succ => simp [ho] at h
          | zero =>
            simp only [ho, Option.some.injEq] at h
            subst h
            obtain ⟨b, o', cs', e1, h1, h2, h3⟩ := hx
            exact ⟨⟨b, o', cs', by simpa using e1, h1, h2, h3⟩, ih⟩
        | _ => simp [ho] at h

theorem extract_sound {l : List (Bool × List V)} {v : Value} (h : Sv m (.tup l) v) {i : Nat} {p : Bool × List V} (hi : nth l i = some p) (w : World) :
    ∃ x, (Instr.extract v i).run P w = .ok x w ∧ Pv m p x := by
  obtain ⟨xs, rfl, hr⟩ := h
  rw [nth_eq] at hi
  obtain ⟨x, hx, hp⟩ := hr.get i p hi
  exact ⟨x, by simp [Instr.extract, hx], hp⟩
end
end Go.Ev
end

section
/- Conversions; append. -/
set_option linter.unusedSimpArgs false
set_option linter.unusedVariables false
namespace Go.Ev
open Go.RowKit (Below)

section
variable {P : Program} {w0 : World} {G0 : Nat → Prop} {N : Nat} {F : List (Nat × Obj)} {m : St} {e : Env} {a : Act} {tm : Array Value} {Γ : Tab} {ρ : Type} {os : List (Nat × Obj)}

theorem source_src (hR : Rel w0 G0 N F m e tm) {x : V} {v : Value} {p : Sigma fun t : Ty => List t.den} (h : source e x = some p) (hx : Lv m x v) : Src m p.1 p.2 v := by
  unfold source at h
  cases x with
  | sl t xs =>
    simp only [Option.some.injEq] at h
    subst h
    exact Src.of_val hx
  | row id =>
    obtain ⟨hid, rfl, _⟩ := hx
    simp only at h
    cases ho : e.obj id with
    | none => simp [ho] at h
    | some o =>
      have hob := (hR.obj id _ ho).2
      cases o with
      | var vs => simp [ho] at h
      | row T t xs =>
        simp only [ho, Option.some.injEq] at h
        subst h
        exact Src.of_row hob
      | frow t xs =>
        simp only [ho, Option.some.injEq] at h
        subst h
        exact Src.of_val hob
  | _ => simp at h

theorem Src.cast {t u : Ty} {xs : List t.den} {ys : List u.den} {v : Value} (h : cast? (.sl t) (.sl u) xs = some ys) (hs : Src m t xs v) : Src m u ys v := by
  obtain ⟨e, h⟩ := cast?_some h
  cases e
  subst h
  exact hs

theorem bytes_none (w : World) (src e : TypeId) (hs : P.underlying src = some (.slice e)) (he : P.underlying e = some (.int .u8)) (p : Option Addr) (c : Nat) :
    ∀ dst, P.underlying dst = some .string → (convert src dst (.slice p 0 c)).run P w = .ok (.string ByteArray.empty) w := by
  intro dst hd
  rw [run_convert_bytes_string w src dst e _ 0 c hs he hd]
  cases p <;> simp [Conv.bytesToString, loadCells]
  all_goals rfl

/-- the bytes of a slice -/
theorem bytes_back {ys : List Int} {v : Value} (hs : Src m (.int .u8) ys v) {src dst e : TypeId} (h1 : P.underlying src = some (.slice e)) (h2 : P.underlying e = some (.int .u8)) (h3 : P.underlying dst = some .string) :
    ∃ s : ByteArray, (convert src dst v).run P m.w = .ok (.string s) m.w ∧ s.data.toList = (ys.map fun (n : Int) => UInt8.ofNat n.toNat) := by
  obtain ⟨A, c, news, rfl, hl, ha, hv, _⟩ := hs
  simp only [Ty.size, Nat.mul_one] at hl
  by_cases h0 : 0 < ys.length
  · obtain ⟨ad, rfl, hc⟩ := ha h0
    have hcell : ∀ i, i < ys.length → m.w.cell? (ad.add i) = some (.int .u8 (ys.getD i 0)) := by
      intro i hi
      have hn : i < news.length := by omega
      have := hv i hi
      simp only [Ty.size, Nat.mul_one, Val] at this
      have hg : news[i]? = some (.int .u8 (ys.getD i 0)) := by
        have e1 : ((news.drop i).take 1)[0]? = some (.int .u8 (ys.getD i 0)) := by
          rw [this]; rfl
        simpa using e1
      exact hc i _ hg
    have hload : (loadCells ad ys.length).run P m.w = .ok (ys.map (Value.int .u8)).toArray m.w := by
      have := run_loadCells_list (P := P) m.w ad (ys.map (Value.int .u8)) (fun j v hj => by
        have hjl : j < ys.length := by
          rcases Nat.lt_or_ge j ys.length with h | h
          · exact h
          · simp [List.getElem?_eq_none (show (ys.map (Value.int .u8)).length ≤ j by simpa using h)] at hj
        rw [hcell j hjl]
        simp [List.getElem?_eq_getElem hjl] at hj
        subst hj
        simp [List.getD, List.getElem?_eq_getElem hjl])
      simpa using this
    refine ⟨_, by rw [run_convert_bytes_string m.w src dst e _ ys.length c h1 h2 h3, run_bytesToString m.w _ ys.length c ys hload, foldl_push_bytes], ?_⟩
    simp [ByteArray.empty, ByteArray.emptyWithCapacity]
    rfl
  · have : ys = [] := List.eq_nil_of_length_eq_zero (by omega)
    subst this
    exact ⟨ByteArray.empty, bytes_none m.w src e h1 h2 A c dst h3, rfl⟩

/-- A string's bytes in a new row, that nobody writes. -/
theorem bytes_of (hR : Rel w0 G0 N F m e tm) {src dst el : TypeId} {u : TypeDesc} (s : ByteArray) (h1 : P.underlying src = some u) (h2 : P.underlying dst = some (.slice el)) (h3 : P.underlying el = some (.int .u8)) :
    ∃ m' v, (convert src dst (.string s)).run P m.w = .ok v m'.w ∧ m.le m' ∧ m'.D = m.D ∧ Rel w0 G0 N F m' e tm ∧ Lv m' (.sl (.int .u8) (s.data.toList.map fun b => ((b.toNat : Nat) : Int))) v := by
  have hrun := Lib.run_convert_string_bytes (P := P) m.w src dst el s h1 h2 h3
  have hold : ∀ b, b < m.w.heap.size → (Lib.bytesWorld m.w el s).heap[b]? = m.w.heap[b]? := fun b hb => Lib.bytesWorld_at_old _ _ _ _ hb
  have hsz := Lib.bytesWorld_size m.w el s
  let m' : St := { m with w := Lib.bytesWorld m.w el s, G := fun b => m.G b ∨ b = m.w.heap.size, H := fun b => m.H b ∨ b = m.w.heap.size }
  have hle : m.le m' := ⟨fun b hb => ⟨.inl hb, hold b (hR.ok.liveG b hb)⟩, fun b hb => ⟨.inl hb, hold b (hR.ok.liveH b hb)⟩, fun _ h => h, fun _ _ => rfl, fun _ _ => rfl⟩
  have hbase : Below w0.heap.size w0 m'.w := by
    refine hR.ok.base.trans ⟨rfl, rfl, rfl, by simp only [m']; omega, fun k hk => ?_⟩
    exact hold k (Nat.lt_of_lt_of_le hk hR.ok.base.size)
  have hG : ∀ b, (m.G b ∨ b = m.w.heap.size) → (m.G b ∨ m.w.heap.size ≤ b) ∧ b < m'.w.heap.size := by
    intro b hb
    rcases hb with hb | hb
    · have := hR.ok.liveG b hb
      exact ⟨.inl hb, by simp only [m']; omega⟩
    · exact ⟨.inr (by omega), by simp only [m']; omega⟩
  have hH : ∀ b, (m.H b ∨ b = m.w.heap.size) → (m.H b ∨ m.w.heap.size ≤ b) ∧ b < m'.w.heap.size := by
    intro b hb
    rcases hb with hb | hb
    · have := hR.ok.liveH b hb
      exact ⟨.inl hb, by simp only [m']; omega⟩
    · exact ⟨.inr (by omega), by simp only [m']; omega⟩
  refine ⟨m', _, hrun, hle, rfl, hR.world hle (hR.ok.world hle hbase (fun i b hb => hold b (hR.ok.out i b hb).2.2.1) hG hH (by simp only [m']; omega) fun b hb => hb.imp (hR.ok.gh b) id), ?_⟩
  have hbs := ba_size s
  refine ⟨_, _, _, rfl, by rw [List.length_map, hbs], grownCap_ge m.w _ 0 el, fun j hj => ?_⟩
  rw [List.length_map] at hj
  refine ⟨_, [.int .u8 ((s.data.toList.getD j 0).toNat : Nat)], rfl, rfl, .inr rfl, ?_, ?_⟩
  · intro q v hq
    cases q with
    | zero =>
      simp only [List.getElem?_cons_zero, Option.some.injEq] at hq
      subst hq
      have := Lib.bytesWorld_cell m.w el s j (by omega)
      simpa [Ty.size] using this
    | succ q => simp at hq
  · have : (s.data.toList.map fun b => ((b.toNat : Nat) : Int)).getD j 0 = ((s.data.toList.getD j 0).toNat : Nat) := by
      simp [List.getD_eq_getElem?_getD, List.getElem?_eq_getElem hj]
    simp only [Val, Ty.zero]
    rw [this]

theorem conv_sound (hΓ : TabOk P Γ) (hR : Rel w0 G0 N F m e tm) {src dst : Nat} {tj ti : TI} (hs : find Γ src = some tj) (hd : find Γ dst = some ti) {x : V} {v : Value} {K : SV → Env → Option ρ} {r : ρ} (h : evConv tj.ty ti.ty x e K = some r) (hx : Lv m x v) :
    ∃ m' sv z, (convert src dst v).run P m.w = .ok z m'.w ∧ Stp m e m' e ∧ m'.D = m.D ∧ Rel w0 G0 N F m' e tm ∧ Sv m' sv z ∧ K sv e = some r := by
  have hS := hΓ _ _ hs
  have hD := hΓ _ _ hd
  obtain ⟨sd, hsd, _⟩ := hS.under
  unfold evConv at h
  cases hdt : ti.ty with
  | int k =>
    rw [hdt] at h
    cases x with
    | i j n =>
      simp only [Lv] at hx
      subst hx
      have hk := hD.int k hdt
      refine ⟨m, .one (.i k (k.wrap n)), .int k (k.wrap n), ?_, .refl m e, rfl, hR, rfl, h⟩
      simp [convert, run_underlying hsd, run_underlying hk, Conv.intToInt]
    | _ => simp at h
  | str =>
    rw [hdt] at h
    have hk := hD.str hdt
    cases hst : tj.ty with
    | str =>
      rw [hst] at h
      cases x with
      | s y =>
        obtain ⟨s, rfl, hy⟩ := hx
        have hk' := hS.str hst
        refine ⟨m, .one (.s y), .string s, ?_, .refl m e, rfl, hR, ⟨s, rfl, hy⟩, h⟩
        simp [convert, run_underlying hk', run_underlying hk]
      | _ => simp at h
    | sl t =>
      rw [hst] at h
      cases t with
      | int k =>
        cases k with
        | u8 =>
          simp only at h
          obtain ⟨hu, _, te, hte, htt⟩ := hS.sl _ hst
          have he := (hΓ _ _ hte).int .u8 htt
          by_cases hn : x = .nil
          · subst hn
            simp only [Lv] at hx
            subst hx
            simp only at h
            exact ⟨m, .one (.s []), _, run_convert_bytes_nil m.w src _ hu he 0 0 dst hk, .refl m e, rfl, hR, ⟨_, rfl, rfl⟩, h⟩
          · have h' : (match source e x with
                | some ⟨t, xs⟩ => match cast? (.sl t) (.sl (.int .u8)) xs with
                  | some ys => K (.one (.s (ys.map fun (n : Int) => UInt8.ofNat n.toNat))) e
                  | none => none
                | none => none) = some r := by
              cases x <;> first | exact h | exact absurd rfl hn
            cases hsrc : source e x with
            | none => simp [hsrc] at h'
            | some p =>
              obtain ⟨t, xs⟩ := p
              simp only [hsrc] at h'
              cases hc : cast? (.sl t) (.sl (.int .u8)) xs with
              | none => simp [hc] at h'
              | some ys =>
                simp only [hc] at h'
                have hsr := Src.cast hc (source_src hR hsrc hx)
                obtain ⟨s, g1, g2⟩ := bytes_back (P := P) hsr hu he hk
                exact ⟨m, .one (.s (ys.map fun (n : Int) => UInt8.ofNat n.toNat)), _, g1, .refl m e, rfl, hR, ⟨s, rfl, g2⟩, h'⟩
        | _ => simp at h
      | _ => simp at h
    | _ => rw [hst] at h; simp at h
  | sl t =>
    rw [hdt] at h
    cases t with
    | int k =>
      cases k with
      | u8 =>
        simp only at h
        cases hst : tj.ty with
        | str =>
          rw [hst] at h
          cases x with
          | s y =>
            obtain ⟨s, rfl, rfl⟩ := hx
            obtain ⟨hu, _, te, hte, htt⟩ := hD.sl _ hdt
            have he := (hΓ _ _ hte).int .u8 htt
            obtain ⟨m', v, g1, g2, gD, g3, g4⟩ := bytes_of (P := P) hR s hsd hu he
            refine ⟨m', .one (.sl (.int .u8) (s.data.toList.map fun b => ((b.toNat : Nat) : Int))), v, g1, .same g2 gD rfl, gD, g3, ?_, h⟩
            exact g4
          | _ => simp at h
        | _ => rw [hst] at h; simp at h
      | _ => simp at h
    | _ => simp at h
  | _ => rw [hdt] at h; simp at h

theorem evAppend_sound (hΓ : TabOk P Γ) (hR : Rel w0 G0 N F m e tm) {T : Nat} {s x : V} {sv xv : Value} {ty : TypeId} {K : SV → Env → Option ρ} {r : ρ} (h : evAppend Γ T s x e K = some r) (hs : Lv m s sv) (hx : Lv m x xv) (hfr : ¬ m.D e.next) :
    ∃ m' e' u z, (Builtin.append_ #[T, T] ty #[sv, xv]).run P m.w = .ok z m'.w ∧ Stp m e m' e' ∧ Rel w0 G0 N F m' e' tm ∧ Sv m' u z ∧ K u e' = some r := by
  unfold evAppend at h
  cases hf : find Γ T with
  | none => simp [hf] at h
  | some ti =>
    simp only [hf] at h
    cases hj : find Γ ti.elem with
    | none => simp [hj] at h
    | some tj =>
      simp only [hj] at h
      cases ht : tyEq ti.ty (.sl tj.ty) with
      | false => simp [ht] at h
      | true =>
        have ht' := tyEq_eq ht
        cases hsm : sameRow s x with
        | true => simp [ht, hsm] at h
        | false =>
          simp only [ht, hsm] at h
          cases hsrc : source e x with
          | none => simp [hsrc] at h
          | some p =>
            obtain ⟨t, xs⟩ := p
            simp only [hsrc] at h
            cases hc : cast? (.sl t) (.sl tj.ty) xs with
            | none => simp [hc] at h
            | some ys =>
              simp only [hc] at h
              have hsr := Src.cast hc (source_src hR hsrc hx)
              unfold evAppendTo at h
              cases s with
              | nil =>
                simp only [Lv] at hs
                subst hs
                simp only at h
                obtain ⟨hcap, h⟩ := chk_dec h
                obtain ⟨m', g1, g2, g3, g4, g5⟩ := append_sound (P := P) hΓ hR.ok hf ht' (xs := []) (ty := ty) (.inl ⟨rfl, rfl⟩) hsr (by simpa using hcap) (by intro a n c e; simp at e) hfr
                exact ⟨m', _, .one (.row e.next), _, g1, .new g2 g3 rfl, hR.push hfr g2 _ g5, ⟨(g3 _).2 (.inr rfl), rfl, g4⟩, h⟩
              | row id =>
                obtain ⟨hid, rfl, _⟩ := hs
                simp only at h
                cases ho : e.obj id with
                | none => simp [ho] at h
                | some o =>
                  cases o with
                  | row U u zs =>
                    simp only [ho] at h
                    have hob := (hR.obj id _ ho).2
                    cases hU : Nat.beq U ti.elem with
                    | false => simp [hU] at h
                    | true =>
                      have hU' := Nat.eq_of_beq_eq_true hU
                      subst hU'
                      cases hc2 : cast? (.sl u) (.sl tj.ty) zs with
                      | none => simp [hU, hc2] at h
                      | some ws =>
                        simp only [hU, hc2] at h
                        obtain ⟨hcap, h⟩ := chk_dec h
                        have hrow : RowAt m.w m.G ti.elem tj.ty ws (m.ν id) := by
                          obtain ⟨e1, e2⟩ := cast?_some hc2
                          cases e1
                          subst e2
                          exact hob
                        have ho' : find e.objs id = some (.row ti.elem u zs) := ho
                        have hbk : ∀ ad n c, m.ν id = .slice (some ad) n c → blk (e.objs ++ F) m id = some ad.block := by
                          intro ad n c e1
                          refine blk_left ?_
                          simp [blk, ho', e1, Value.ownBlock]
                        obtain ⟨m', g1, g2, g3, g4, g5⟩ := append_sound (P := P) hΓ (hR.ok.erase id) hf ht' (ty := ty) hrow hsr hcap (by
                          intro ad n c e1
                          have hb := hbk ad n c e1
                          obtain ⟨o1, o2, o3, o4⟩ := hR.ok.out id _ hb
                          refine ⟨o4, o3, o1, o2, fun i hi => ?_⟩
                          unfold blk at hi
                          rw [find_erase (α := Nat)] at hi
                          by_cases hii : id = i
                          · rw [if_pos hii] at hi; simp at hi
                          · rw [if_neg hii] at hi
                            exact hii (hR.ok.inj id i _ hb hi)) hfr
                        have hdj : ∀ i o, find (erase e.objs id) i = some o → find F i = none := fun i o hf => by
                          rw [find_erase (α := Nat)] at hf
                          by_cases hii : id = i
                          · rw [if_pos hii] at hf; simp at hf
                          · rw [if_neg hii] at hf; exact hR.disj i o hf
                        have hR2 : Rel w0 G0 N F m ⟨e.slots, erase e.objs id, e.next⟩ tm := hR.objs (.refl m) _ _ (ObjsOk.congr (hR.ok.erase id) (erase_left (hR.disj _ _ ho'))) hdj
                        refine ⟨m', _, .one (.row e.next), _, g1, .new g2 g3 rfl, hR2.push hfr g2 _ (ObjsOk.congr g5 fun i => ?_), ⟨(g3 _).2 (.inr rfl), rfl, g4⟩, h⟩
                        rw [find_cons, find_cons, erase_left (hR.disj _ _ ho')]
                  | _ => simp [ho] at h
              | _ => simp at h
end
end Go.Ev
end

section
/- A row of k cells is sorted in place: below the heap's size of the start the world is as it was but for the row; 'less' may make blocks of its own. -/
set_option linter.unusedSimpArgs false
set_option linter.unusedVariables false
namespace Go.Proofs
open Go.RowKit Go.Sort
section
variable {P : Program} {α : Type} [Inhabited α] {enc : α → List Value} {k : Nat} {w0 W : World} {blk off : Nat} {dk : Array α}
abbrev dat (g : Nat) (lb : Array Value) (sf : Nat) (sb : Array Value) : Array Value := #[.func (.func g) #[] lb, .func (.func sf) #[] sb]
def SWB (enc : α → List Value) (k : Nat) (w0 : World) (blk off : Nat) (dk : Array α) (W : World) : Prop := Below w0.heap.size (putRowK enc k w0 blk off dk) W
theorem SWB.start (h : HoldsK enc k w0 blk off dk) : SWB enc k w0 blk off dk w0 := by
  unfold SWB; rw [putRowK_self enc k w0 blk off dk h]; exact Below.refl _ _
theorem SWB.le (h : SWB enc k w0 blk off dk W) : w0.heap.size ≤ W.heap.size := by
  have := Below.size h; rwa [size_putRowK] at this
theorem SWB.lt (h : SWB enc k w0 blk off dk W) (hblk : blk < w0.heap.size) : blk < W.heap.size := Nat.lt_of_lt_of_le hblk h.le
theorem SWB.below {W' : World} (h : SWB enc k w0 blk off dk W) (hb : Below W.heap.size W W') : SWB enc k w0 blk off dk W' := Below.trans h (hb.mono h.le)
theorem SWB.drewN (h : SWB enc k w0 blk off dk W) (q : Nat) : SWB enc k w0 blk off dk (W.drewN q) := Below.trans h ⟨rfl, rfl, rfl, Nat.le_refl _, fun _ _ => rfl⟩
theorem SWB.alloc (h : SWB enc k w0 blk off dk W) (o : Obj) : SWB enc k w0 blk off dk (W.alloc o) := Below.alloc h h.le o
theorem holds_of_block {β : Type} [Inhabited β] {e : β → Value} {w w' : World} {b o : Nat} {d : Array β} (hb : w'.heap[b]? = w.heap[b]?) (h : Holds e w b o d) : Holds e w' b o d := fun j hj => by
  rw [World.cell?_of_block (w := w) (a := ⟨b, o + j, none⟩) hb, World.frozen?_of_block (w := w) (a := ⟨b, o + j, none⟩) hb]; exact h j hj
theorem SWB.holds (h : SWB enc k w0 blk off dk W) (hblk : blk < w0.heap.size) {d0 : Array α} (h0 : HoldsK enc k w0 blk off d0) (hs : dk.size = d0.size) : HoldsK enc k W blk off dk :=
  holds_of_block (Below.block h blk hblk) (holdsK_putRowK enc k w0 blk off d0 dk h0 hs)
theorem heap_setCell_congr {w x : World} {b : Nat} (h : w.heap[b]? = x.heap[b]?) (a : Addr) (v : Value) : (w.setCell a v).heap[b]? = (x.setCell a v).heap[b]? := by
  simp only [World.setCell, Array.getElem?_modify, h]
theorem heap_setCells_congr (blk : Nat) : ∀ (vs : List Value) (o : Nat) (w x : World) (b : Nat), w.heap[b]? = x.heap[b]? → (w.setCells blk o vs).heap[b]? = (x.setCells blk o vs).heap[b]?
  | [], _, _, _, _, h => h
  | v :: r, o, w, x, b, h => heap_setCells_congr blk r (o + 1) _ _ b (heap_setCell_congr h _ v)
theorem setCells_rest (blk : Nat) : ∀ (vs : List Value) (o : Nat) (w : World), (w.setCells blk o vs).os = w.os ∧ (w.setCells blk o vs).tape = w.tape ∧ (w.setCells blk o vs).output = w.output ∧ (w.setCells blk o vs).heap.size = w.heap.size
  | [], _, _ => ⟨rfl, rfl, rfl, rfl⟩
  | v :: r, o, w => by
    obtain ⟨h1, h2, h3, h4⟩ := setCells_rest blk r (o + 1) (w.setCell ⟨blk, o, none⟩ v)
    exact ⟨h1, h2, h3, h4.trans (by simp [World.setCell])⟩
theorem SWB.swap (h : SWB enc k w0 blk off dk W) (hk : ∀ x, (enc x).length = k) (hblk : blk < w0.heap.size) (i j : Nat) (hi : i < dk.size) (hj : j < dk.size) :
    SWB enc k w0 blk off (swp dk i j) ((W.setCells blk (off + i * k) (enc dk[j]!)).setCells blk (off + j * k) (enc dk[i]!)) := by
  unfold SWB
  rw [← putRowK_swp enc k hk w0 blk off dk i j hi hj]
  obtain ⟨a1, a2, a3, a4⟩ := setCells_rest blk (enc dk[j]!) (off + i * k) W
  obtain ⟨b1, b2, b3, b4⟩ := setCells_rest blk (enc dk[i]!) (off + j * k) (W.setCells blk (off + i * k) (enc dk[j]!))
  obtain ⟨c1, c2, c3, c4⟩ := setCells_rest blk (enc dk[j]!) (off + i * k) (putRowK enc k w0 blk off dk)
  obtain ⟨d1, d2, d3, d4⟩ := setCells_rest blk (enc dk[i]!) (off + j * k) ((putRowK enc k w0 blk off dk).setCells blk (off + i * k) (enc dk[j]!))
  refine ⟨?_, ?_, ?_, ?_, fun b hb => heap_setCells_congr _ _ _ _ _ _ (heap_setCells_congr _ _ _ _ _ _ (Below.block h b hb))⟩
  · rw [b1, a1, d1, c1]; exact Below.os h
  · rw [b2, a2, d2, c2]; exact Below.tape h
  · rw [b3, a3, d3, c3]; exact Below.output h
  · rw [b4, a4, d4, c4]; exact Below.size h
theorem heap_putRowK_congr {w x : World} {b : Nat} (h : w.heap[b]? = x.heap[b]?) (d : Array α) : (putRowK enc k w blk off d).heap[b]? = (putRowK enc k x blk off d).heap[b]? := by
  simp only [putRowK, putRow, mapBlock, Array.getElem?_modify, h]
theorem putRowK_putRowK (w : World) (d d' : Array α) (h : d'.size = d.size) : putRowK enc k (putRowK enc k w blk off d) blk off d' = putRowK enc k w blk off d' := putRow_putRow id w blk off _ _ (by simp [h])
theorem swb_down {w W' : World} {d : Array α} (hblk : blk < w.heap.size) (h : SWB enc k w blk off d W) (h' : SWB enc k W blk off dk W') (hs : dk.size = d.size) : SWB enc k w blk off dk W' := by
  have g' : Below W.heap.size (putRowK enc k W blk off dk) W' := h'
  have g : Below w.heap.size (putRowK enc k w blk off d) W := h
  have e1 := g'.os; have e2 := g.os; have e3 := g'.tape; have e4 := g.tape; have e5 := g'.output; have e6 := g.output
  change W'.os = W.os at e1; change W.os = w.os at e2; change W'.tape = W.tape at e3; change W.tape = w.tape at e4; change W'.output = W.output at e5; change W.output = w.output at e6
  refine ⟨e1.trans e2, e3.trans e4, e5.trans e6, ?_, fun b hb => ?_⟩
  · rw [size_putRowK]; exact Nat.le_trans h.le (SWB.le h')
  · rw [Below.block h' b (Nat.lt_of_lt_of_le hb h.le), heap_putRowK_congr (Below.block h b hb), putRowK_putRowK _ _ _ hs]
theorem swb_data {w wr : World} {cs : Array Value} {T : Nat} (hblk : blk < w.heap.size) (h : SWB enc k (w.alloc (.cells cs T)) blk off dk wr) (kk : Nat) (v : Value)
    (hv : (w.alloc (.cells cs T)).cell? ⟨w.heap.size, kk, none⟩ = some v) : wr.cell? ⟨w.heap.size, kk, none⟩ = some v := by
  have hlt : w.heap.size < (w.alloc (.cells cs T)).heap.size := by rw [alloc_eq_grow, size_grow]; simp
  rw [Below.cell h (p := ⟨w.heap.size, kk, none⟩) hlt, cell?_putRowK_other enc k _ blk off dk _ (by show w.heap.size ≠ blk; omega)]
  exact hv
/-- WHAT IS ASKED OF 'less': it tells the order of two elements of the row as it stands; it may make blocks of its own. -/
def LessB (P : Program) (g : Nat) (lb : Array Value) (enc : α → List Value) (k : Nat) (lt : α → α → Bool) (blk off size : Nat) (w0 : World) : Prop :=
  ∀ (W : World) (dk : Array α), SWB enc k w0 blk off dk W → dk.size = size → ∀ i j : Nat, i < size → j < size →
    Calls P g (#[.int .i64 i, .int .i64 j] ++ lb) W fun e w' => e = .returned (.bool (lt dk[i]! dk[j]!)) ∧ Below W.heap.size W w'
theorem SWB.less {g : Nat} {lb : Array Value} {lt : α → α → Bool} {size : Nat} (h : SWB enc k w0 blk off dk W) (hL : LessB P g lb enc k lt blk off size w0) (hs : dk.size = size) (i j : Nat) (hi : i < size) (hj : j < size) :
    Calls P g (#[.int .i64 i, .int .i64 j] ++ lb) W fun e w' => e = .returned (.bool (lt dk[i]! dk[j]!)) ∧ Below W.heap.size W w' := hL W dk h hs i j hi hj
theorem SWB.lessReads {g : Nat} {lb : Array Value} {lt : α → α → Bool} {size : Nat} (h : SWB enc k w0 blk off dk W) (hL : LessB P g lb enc k lt blk off size w0) (hblk : blk < w0.heap.size) (hs : dk.size = size) : LessB P g lb enc k lt blk off size W :=
  fun W' dk' h' hs' => hL W' dk' (swb_down hblk h h' (hs'.trans hs.symm)) hs'
end
end Go.Proofs
end

section
/- What is known of a function that sorts a slice in place, stably. -/
set_option linter.unusedVariables false
namespace Go.Ev
open Go.RowKit (Below)
open Go.Sort (HoldsK)
open Go.Proofs (LessB SWB)
/-- f at a slice of type T, ready in an interface, and a 'less' -/
structure StableOk (P : Program) (f T : Nat) : Prop where
  many : ∃ U ie, P.underlying T = some (.slice U) ∧ P.info? U = some ie ∧ ∀ {α : Type} [Inhabited α] (enc : α → List Value) (_ : ∀ x, (enc x).length = ie.size) (_ : ∀ x, ∀ v ∈ enc x, v.oneCell' = true) (lt : α → α → Bool) (_ : Weak lt) (g : Nat) (lb : Array Value)
    (_ : ∀ args w, (callFunc g args).run P w = .ok (.enter g args) w) (blk off c : Nat) (d : Array α) (_ : 2 ≤ d.size) (_ : d.size < 1152921504606846976) (w : World) (_ : LessB P g lb enc ie.size lt blk off d.size w) (_ : HoldsK enc ie.size w blk off d) (_ : blk < w.heap.size),
    Calls P f #[.iface T (.slice (some ⟨blk, off, none⟩) d.size c), .func (.func g) #[] lb] w fun e w' => e = .returned (.tuple #[]) ∧ SWB enc ie.size w blk off (stab lt d.toList).toArray w'
  tiny : ∀ (p : Option Addr) (n c : Nat), n ≤ 1 → ∀ (lf : Fn) (la lb : Array Value) (w : World), Calls P f #[.iface T (.slice p n c), .func lf la lb] w fun e w' => e = .returned (.tuple #[]) ∧ Below w.heap.size w w'
def SrtCon (P : Program) (f : Nat) (c : Con) : Prop := match c.args with
  | [.srt Ts] => ∀ T, memT Ts T = true → StableOk P f T
  | _ => True
end Go.Ev
end

section
/- Contracts and calls. -/
set_option linter.unusedSimpArgs false
set_option linter.unusedVariables false
set_option linter.unusedSectionVars false
namespace Go.Ev
open Go.RowKit (Below)

def PtrTo (w : World) (G : Nat → Prop) (t : Ty) (x : t.den) (v : Value) : Prop := ∃ b o cs, v = .pointer (some ⟨b, o, none⟩) ∧ b < w.heap.size ∧ CellsAt w b o cs ∧ Val w G t x cs
def CapsTo (w : World) (G : Nat → Prop) : (ts : List Ty) → dens ts → List Value → Prop
  | [], _, l => l = []
  | t :: r, x, v :: l => PtrTo w G t x.1 v ∧ CapsTo w G r x.2 l
  | _ :: _, _, [] => False
def Arg (w : World) (G : Nat → Prop) : (a : AT) → a.den → Value → Prop
  | .val t, x, v => ∃ cs, Val w G t x cs ∧ AsVal t cs v
  | .ptr t, x, v => PtrTo w G t x v
  | .clo f ts, x, v => ∃ cv : List Value, v = .func (.func f) #[] cv.toArray ∧ CapsTo w G ts x cv
  | .srt _, _, _ => False
def Args (w : World) (G : Nat → Prop) : (ats : List AT) → ATs.den ats → List Value → Prop
  | [], _, l => l = []
  | a :: r, x, v :: l => Arg w G a x.1 v ∧ Args w G r x.2 l
  | _ :: _, _, [] => False
def Res1 (w : World) (G : Nat → Prop) (t : Ty) (x : t.den) (v : Value) : Prop := ∃ cs, Val w G t x cs ∧ AsVal t cs v
def Ress (w : World) (G : Nat → Prop) : (ts : List Ty) → den1 ts → List Value → Prop
  | [], _, l => l = []
  | [t], x, l => ∃ v, l = [v] ∧ Res1 w G t x v
  | t :: u :: r, x, l => ∃ v l', l = v :: l' ∧ Res1 w G t x.1 v ∧ Ress w G (u :: r) x.2 l'
/-- Results as one value. -/
def asRes : List Value → Value
  | [v] => v
  | l => .tuple l.toArray

/-- What views may lead to behind a call: what they might ahead of it, and what is new. -/
def grown (G : Nat → Prop) (w w' : World) : Nat → Prop := fun b => G b ∨ (w.heap.size ≤ b ∧ b < w'.heap.size)

/-- THE CONTRACT, in worlds that have grown out of w0: where the function answers, the call returns, the answer is the value, no old block has turned. -/
def ConOk (P : Program) (w0 : World) (f : Nat) (c : Con) : Prop :=
  ∀ (k : Nat) (x : ATs.den c.args) (r : den1 c.res) (w : World) (G : Nat → Prop) (args : List Value), Below w0.heap.size w0 w → (∀ b, G b → b < w.heap.size) → c.fn k x = some r → Args w G c.args x args →
    Calls P f args.toArray w fun e w' => ∃ l, e = .returned (asRes l) ∧ Below w.heap.size w w' ∧ Ress w' (grown G w w') c.res r l
def Enters' (P : Program) (f : Nat) : Prop := ∀ args w, (callFunc f args).run P w = .ok (.enter f args) w
def DelOk (P : Program) (w0 : World) (Δ : List (Nat × Con)) : Prop := ∀ f c, (f, c) ∈ Δ → ConOk P w0 f c ∧ Enters' P f ∧ SrtCon P f c
theorem ConOk.later {P : Program} {w0 w : World} {f : Nat} {c : Con} (h : ConOk P w0 f c) (hb : Below w0.heap.size w0 w) : ConOk P w f c := fun k x r w' G args hb' => h k x r w' G args (hb.trans (hb'.mono hb.size))
theorem DelOk.later {P : Program} {w0 w : World} {Δ : List (Nat × Con)} (h : DelOk P w0 Δ) (hb : Below w0.heap.size w0 w) : DelOk P w Δ := fun f c hm => ⟨(h f c hm).1.later hb, (h f c hm).2⟩

theorem Ress.sv {m : St} : ∀ {ts : List Ty} {x : den1 ts} {l : List Value}, Ress m.w m.G ts x l → Sv m (resAll ts x) (asRes l)
  | [], _, l, h => by
    simp only [Ress] at h
    subst h
    exact ⟨[], rfl, trivial⟩
  | [t], x, l, ⟨v, e, cs, hv, ha⟩ => by
    subst e
    exact sv_ofTy hv ha
  | t :: u :: r, x, l, h => by
    have key : ∀ (ts : List Ty) (x : den1 ts) (l : List Value), Ress m.w m.G ts x l → R2 (Pv m) (svs ts x) l ∧ l.length = ts.length := by
      intro ts
      induction ts with
      | nil => intro x l h; simp only [Ress] at h; subst h; exact ⟨trivial, rfl⟩
      | cons t ts ih =>
        have one : ∀ (x : t.den) (v : Value), Res1 m.w m.G t x v → Pv m (t.isAgg, enc t x []) v := by
          intro x v ⟨cs, hv, ha⟩
          have he := Val.enc (m := m) hv
          unfold AsVal at ha
          cases hg : t.isAgg with
          | true =>
            rw [hg] at ha
            exact .inl ⟨rfl, cs, ha, he⟩
          | false =>
            rw [hg] at ha
            simp only at ha
            subst ha
            cases hE : enc t x [] with
            | nil => rw [hE] at he; exact absurd he (by simp [R2])
            | cons a l =>
              rw [hE] at he
              cases l with
              | nil => exact .inr ⟨rfl, a, rfl, he.1⟩
              | cons b l => exact absurd he.2 (by simp [R2])
        cases ts with
        | nil =>
          intro x l ⟨v, e, h⟩
          subst e
          exact ⟨⟨one x v h, trivial⟩, rfl⟩
        | cons u r =>
          intro x l ⟨v, l', e, h1, h2⟩
          subst e
          obtain ⟨g1, g2⟩ := ih x.2 l' h2
          exact ⟨⟨one x.1 v h1, g1⟩, by simp [g2]⟩
    obtain ⟨g1, g2⟩ := key _ x l h
    refine ⟨l, ?_, g1⟩
    match l, g2 with
    | a :: b :: l, _ => rfl
theorem Ress.flat {w w' : World} {G G' : Nat → Prop} : ∀ {ts : List Ty} {x : den1 ts} {l : List Value}, flatAll ts = true → Ress w G ts x l → Ress w' G' ts x l
  | [], _, _, _, h => h
  | [t], x, l, hf, ⟨v, e, cs, hv, ha⟩ => by
    simp only [flatAll, Bool.and_true] at hf
    exact ⟨v, e, cs, Val.flat hf hv, ha⟩
  | t :: u :: r, x, l, hf, ⟨v, l', e, ⟨cs, hv, ha⟩, h2⟩ => by
    simp only [flatAll, Bool.and_eq_true] at hf
    exact ⟨v, l', e, ⟨cs, Val.flat hf.1 hv, ha⟩, Ress.flat (by simp only [flatAll, Bool.and_eq_true]; exact hf.2) h2⟩

section
variable {P : Program} {w0 : World} {G0 : Nat → Prop} {N : Nat} {F : List (Nat × Obj)} {m : St} {e : Env} {tm : Array Value} {Γ : Tab} {ρ : Type} {os : List (Nat × Obj)} {st : Bool} {Gd : Nat → Prop}

theorem heap_lt {w : World} {b : Nat} {o : Go.Obj} (h : w.heap[b]? = some o) : b < w.heap.size := (Array.getElem?_eq_some_iff.1 h).1

section
variable (ho : ∀ i o, find os i = some o → Ob m i o) (hG : ∀ b, m.G b → Gd b) (hL : ∀ b, m.H b → b < m.w.heap.size)
    (hR : st = false → ∀ i T u xs a n c, find os i = some (.row T u xs) → m.ν i = .slice (some a) n c → Gd a.block)
include ho hG hL hR

theorem varTy_sound {t : Ty} {x : t.den} {id : Nat} {v : Value} (h : varTy st os t id = some x) (hv : v = .pointer (some ⟨m.β id, 0, none⟩)) : PtrTo m.w Gd t x v := by
  unfold varTy at h
  cases hf : find os id with
  | none => simp [hf] at h
  | some o =>
    have hob := ho id o hf
    cases o with
    | var vs =>
      simp only [hf] at h
      obtain ⟨cs, T, hh, hr⟩ := hob
      exact ⟨m.β id, 0, cs, hv, heap_lt hh, cells_of_heap hh, decCells_val ho hG hR h hr⟩
    | _ => simp [hf] at h
theorem capTy_sound {t : Ty} {x : t.den} {c : Cap} {v : Value} (h : capTy st os t c = some x) (hv : Cp m c v) : PtrTo m.w Gd t x v := by
  cases c with
  | loc id => exact varTy_sound ho hG hL hR h hv.2
  | el u y =>
    obtain ⟨b, o, cs, e, hH, hc, hval⟩ := hv
    exact ⟨b, o, cs, e, hL b hH, hc, Val.cast h (Val.mono (fun b hb => ⟨hG b hb, rfl⟩) _ _ _ hval)⟩
theorem bindCaps_sound : ∀ (ts : List Ty) (cs : List Cap) (x : dens ts) (l : List Value), bindCaps st os ts cs = some x → R2 (Cp m) cs l → CapsTo m.w Gd ts x l
  | [], [], x, l, h, hl => by
    cases l with
    | nil => rfl
    | cons => exact absurd hl (by simp [R2])
  | t :: r, c :: cs, x, l, h, hl => by
    cases l with
    | nil => exact absurd hl (by simp [R2])
    | cons v l =>
      obtain ⟨h1, h2⟩ := hl
      simp only [bindCaps] at h
      cases hx : capTy st os t c with
      | none => simp [hx] at h
      | some y =>
        cases hy : bindCaps st os r cs with
        | none => simp [hx, hy] at h
        | some z =>
          simp only [hx, hy, Option.some.injEq] at h
          subst h
          exact ⟨capTy_sound ho hG hL hR hx h1, bindCaps_sound r cs z l hy h2⟩
  | [], _ :: _, x, l, h, hl => by simp [bindCaps] at h
  | _ :: _, [], x, l, h, hl => by simp [bindCaps] at h
theorem bindArg_sound {a : AT} {x : a.den} {s : SV} {v : Value} (h : bindArg st os a s = some x) (hv : Sv m s v) : Arg m.w Gd a x v := by
  cases a with
  | val t =>
    simp only [bindArg] at h
    obtain ⟨cs, h1, h2⟩ := decAll_val ho hG hR h hv
    exact ⟨cs, h1, h2⟩
  | srt Ts => simp [bindArg] at h
  | ptr t =>
    cases s with
    | one y =>
      cases y with
      | loc id off =>
        cases off with
        | zero => exact varTy_sound ho hG hL hR (by simpa only [bindArg] using h) hv.2
        | succ => simp [bindArg] at h
      | el u y off =>
        cases off with
        | zero =>
          simp only [bindArg] at h
          obtain ⟨b, o, cs, e, hH, hc, hval⟩ := hv
          exact ⟨b, o, cs, by simpa using e, hL b hH, hc, Val.cast h (Val.mono (fun b hb => ⟨hG b hb, rfl⟩) _ _ _ hval)⟩
        | succ => simp [bindArg] at h
      | _ => simp [bindArg] at h
    | _ => simp [bindArg] at h
  | clo f ts =>
    cases s with
    | one y =>
      cases y with
      | clo g caps =>
        simp only [bindArg] at h
        cases hb : Nat.beq f g with
        | false => simp [hb] at h
        | true =>
          simp only [hb] at h
          have := Nat.eq_of_beq_eq_true hb
          subst this
          obtain ⟨cv, e, hc⟩ := hv
          exact ⟨cv, e, bindCaps_sound ho hG hL hR ts caps x cv h hc⟩
      | _ => simp [bindArg] at h
    | _ => simp [bindArg] at h
theorem bindArgs_sound : ∀ (ats : List AT) (vs : List SV) (x : ATs.den ats) (l : List Value), bindArgs st os ats vs = some x → R2 (Sv m) vs l → Args m.w Gd ats x l
  | [], [], x, l, h, hl => by
    cases l with
    | nil => rfl
    | cons => exact absurd hl (by simp [R2])
  | a :: r, v :: vs, x, l, h, hl => by
    cases l with
    | nil => exact absurd hl (by simp [R2])
    | cons u l =>
      obtain ⟨h1, h2⟩ := hl
      simp only [bindArgs] at h
      cases hx : bindArg st os a v with
      | none => simp [hx] at h
      | some y =>
        cases hy : bindArgs st os r vs with
        | none => simp [hx, hy] at h
        | some z =>
          simp only [hx, hy, Option.some.injEq] at h
          subst h
          exact ⟨bindArg_sound ho hG hL hR hx h1, bindArgs_sound r vs z l hy h2⟩
  | [], _ :: _, x, l, h, hl => by simp [bindArgs] at h
  | _ :: _, [], x, l, h, hl => by simp [bindArgs] at h
end

theorem bnd_some {α ρ : Type} {x : Option α} {f : α → Option ρ} {r : ρ} (h : bnd x f = some r) : ∃ y, x = some y ∧ f y = some r := by
  cases x with
  | none => simp [bnd] at h
  | some y => exact ⟨y, rfl, h⟩

theorem call_sound {Δ : List (Nat × Con)} (hΔ : ∀ f c, (f, c) ∈ Δ → ConOk P w0 f c ∧ Enters' P f) {k f : Nat} {vs : List SV} {args : List Value} {K : SV → Env → Option ρ} {r : ρ} (hR : Rel w0 G0 N F m e tm) (hvs : R2 (Sv m) vs args)
    (h : evCall k f vs e K Δ = some r) : Enters' P f ∧ Calls P f args.toArray m.w fun en w' => ∃ v m' e' s, en = .returned v ∧ m'.w = w' ∧ Stp m e m' e' ∧ m'.D = m.D ∧ Rel w0 G0 N F m' e' tm ∧ Sv m' s v ∧ K s e' = some r := by
  induction Δ with
  | nil => simp [evCall] at h
  | cons p Δ ih =>
    obtain ⟨g, c⟩ := p
    have ih := ih fun f c hm => hΔ f c (List.mem_cons_of_mem _ hm)
    simp only [evCall] at h
    cases hg : Nat.beq f g with
    | false => rw [hg] at h; exact ih h
    | true =>
      have := Nat.eq_of_beq_eq_true hg
      subst this
      obtain ⟨hcon, hent⟩ := hΔ f c List.mem_cons_self
      rw [hg] at h
      simp only at h
      have hob : ∀ i o, find e.objs i = some o → Ob m i o := fun i o hi => (hR.obj i o hi).2
      cases hfl : flatAll c.res with
      | true =>
        rw [hfl] at h
        simp only at h
        cases hb : bindArgs false e.objs c.args vs with
        | none => rw [hb] at h; exact ih h
        | some x =>
          rw [hb] at h
          obtain ⟨y, hy, hK⟩ := bnd_some h
          refine ⟨hent, Calls.mono (hcon k x y m.w (fun b => b < m.w.heap.size) args hR.ok.base (fun _ h => h) hy (bindArgs_sound hob (fun b hb => hR.ok.liveG b hb) hR.ok.liveH (fun _ i T u xs ad n c' hi hν => ?_) _ _ _ _ hb hvs)) ?_⟩
          · exact (hR.ok.out i ad.block (blk_left (by simp [blk, hi, hν, Value.ownBlock]))).2.2.1
          · intro en w' ⟨l, e1, hbel, hres⟩
            have hle : m.le { m with w := w' } := ⟨fun b hb => ⟨hb, hbel.block b (hR.ok.liveG b hb)⟩, fun b hb => ⟨hb, hbel.block b (hR.ok.liveH b hb)⟩, fun _ h => h, fun _ _ => rfl, fun _ _ => rfl⟩
            refine ⟨asRes l, { m with w := w' }, e, _, e1, rfl, .same hle rfl rfl, rfl, hR.world hle (hR.ok.world hle (hR.ok.base.trans (hbel.mono hR.ok.base.size)) (fun i b hb => hbel.block b (hR.ok.out i b hb).2.2.1) (fun b hb => ⟨.inl hb, ?_⟩) (fun b hb => ⟨.inl hb, ?_⟩) hbel.size hR.ok.gh), Ress.sv (Ress.flat hfl hres), hK⟩
            · exact Nat.lt_of_lt_of_le (hR.ok.liveG b hb) hbel.size
            · exact Nat.lt_of_lt_of_le (hR.ok.liveH b hb) hbel.size
      | false =>
        rw [hfl] at h
        simp only at h
        cases hb : bindArgs true (e.freeze (reachAll e.objs vs)).objs c.args vs with
        | none => rw [hb] at h; exact ih h
        | some x =>
          rw [hb] at h
          obtain ⟨y, hy, hK⟩ := bnd_some h
          obtain ⟨m1, l1, hw1, hD1, hR1⟩ := hR.freeze (reachAll e.objs vs)
          have hvs1 : R2 (Sv m1) vs args := hvs.imp fun _ _ hx => Sv.le l1 hx
          have hnx : (e.freeze (reachAll e.objs vs)).next = e.next := rfl
          have hsl : (e.freeze (reachAll e.objs vs)).slots = e.slots := rfl
          generalize e.freeze (reachAll e.objs vs) = e1 at hb hK hR1 hnx hsl
          have hob1 : ∀ i o, find e1.objs i = some o → Ob m1 i o := fun i o hi => (hR1.obj i o hi).2
          rw [← hw1]
          refine ⟨hent, Calls.mono (hcon k x y m1.w m1.G args hR1.ok.base hR1.ok.liveG hy (bindArgs_sound hob1 (fun b hb => hb) hR1.ok.liveH (fun h => by simp at h) _ _ _ _ hb hvs1)) ?_⟩
          intro en w' ⟨l, e2, hbel, hres⟩
          let m2 : St := { m1 with w := w', G := grown m1.G m1.w w', H := grown m1.H m1.w w' }
          have hle : m1.le m2 := ⟨fun b hb => ⟨.inl hb, hbel.block b (hR1.ok.liveG b hb)⟩, fun b hb => ⟨.inl hb, hbel.block b (hR1.ok.liveH b hb)⟩, fun _ h => h, fun _ _ => rfl, fun _ _ => rfl⟩
          have gr : ∀ {A : Nat → Prop}, (∀ b, A b → b < m1.w.heap.size) → ∀ b, grown A m1.w w' b → (A b ∨ m1.w.heap.size ≤ b) ∧ b < w'.heap.size := by
            intro A hA b hb
            rcases hb with hb | ⟨h1, h2⟩
            · exact ⟨.inl hb, Nat.lt_of_lt_of_le (hA b hb) hbel.size⟩
            · exact ⟨.inr h1, h2⟩
          refine ⟨asRes l, m2, e1, _, e2, rfl, .same (l1.trans hle) hD1 hnx hsl, hD1, hR1.world hle (hR1.ok.world hle (hR1.ok.base.trans (hbel.mono hR1.ok.base.size)) (fun i b hb => hbel.block b (hR1.ok.out i b hb).2.2.1) (gr hR1.ok.liveG) (gr hR1.ok.liveH) hbel.size fun b hb => hb.imp (hR1.ok.gh b) id), Ress.sv hres, hK⟩
end
end Go.Ev
end
