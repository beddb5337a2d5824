/- Operations that only reckon. -/
import Derived.Test.YticlnmiakaelkaaEvTab
import Derived.Tactics
import Derived.Laws.Strings
import Derived.Laws.StructEq
set_option linter.unusedSimpArgs false
set_option linter.unusedVariables false
namespace Go.Ev
open Go.RowKit (Below)

section
variable {P : Program} {w0 : World} {G0 : Nat → Prop} {N : Nat} {F : List (Nat × Obj)} {m : St} {e : Env} {a : Act} {Γ : Tab}

theorem wp_value {o : Oper} {w w' : World} {v : Value} {next : Act → World → Prop} {Q : Exit → Act → World → Prop}
    (h : (execOp a.eval o).run P w = .ok (.value v) w') (hn : next (a.put o.dst v) w') : o.wp P a w next Q := by
  unfold Oper.wp; rw [h]; exact hn
theorem wp_skip' {o : Oper} {w w' : World} {next : Act → World → Prop} {Q : Exit → Act → World → Prop}
    (h : (execOp a.eval o).run P w = .ok .skip w') (hn : next (a.put o.dst undef) w') : o.wp P a w next Q := by
  unfold Oper.wp; rw [h]; exact hn

theorem constV_lv : ∀ {v : Value} {x : V}, constV v = some x → Lv m x v := by
  intro v x h
  cases v with
  | slice A n c =>
    cases A with
    | some A => simp [constV] at h
    | none =>
      cases n with
      | succ n => simp [constV] at h
      | zero =>
        cases c with
        | succ c => simp [constV] at h
        | zero => simp only [constV, Option.some.injEq] at h; subst h; rfl
  | int k n => simp only [constV, Option.some.injEq] at h; subst h; rfl
  | bool b => simp only [constV, Option.some.injEq] at h; subst h; rfl
  | string s => simp only [constV, Option.some.injEq] at h; subst h; exact ⟨s, rfl, rfl⟩
  | _ => simp [constV] at h
theorem constVs_lv : ∀ {l : List Value} {x : List V}, constVs l = some x → R2 (Lv m) x l
  | [], x, h => by simp only [constVs, Option.some.injEq] at h; subst h; trivial
  | v :: r, x, h => by
    simp only [constVs] at h
    cases h1 : constV v with
    | none => simp [h1] at h
    | some y =>
      cases h2 : constVs r with
      | none => simp [h1, h2] at h
      | some l =>
        simp only [h1, h2, Option.some.injEq] at h
        subst h
        exact ⟨constV_lv h1, constVs_lv h2⟩
theorem constSV_sv {v : Value} {s : SV} (h : constSV v = some s) : Sv m s v := by
  by_cases ha : ∃ cs, v = .agg cs
  · obtain ⟨cs, rfl⟩ := ha
    simp only [constSV] at h
    cases h1 : constVs cs.toList with
    | none => simp [h1] at h
    | some l =>
      simp only [h1, Option.some.injEq] at h
      subst h
      exact ⟨cs.toList, by simp, constVs_lv h1⟩
  · have h' : (match constV v with
      | some x => some (SV.one x)
      | none => none) = some s := by
      cases v <;> first | exact h | exact absurd ⟨_, rfl⟩ ha
    cases h1 : constV v with
    | none => simp [h1] at h'
    | some x =>
      simp only [h1, Option.some.injEq] at h'
      subst h'
      exact constV_lv h1

theorem val_sv (hR : Rel w0 G0 N F m e a.tmps) {o : Operand} {s : SV} (h : e.val o = some s) : Sv m s (a.eval o) := by
  cases o with
  | tmp t =>
    obtain ⟨v, hv, hs⟩ := hR.slots t s h
    have : a.eval (.tmp t) = v := by simp [Act.eval, Array.getD_eq_getD_getElem?, hv]
    rw [this]; exact hs
  | const v => exact constSV_sv h
  | func f =>
    simp only [Env.val, Option.some.injEq] at h
    subst h
    exact ⟨[], rfl, trivial⟩
  | global g => simp [Env.val] at h
theorem one_lv (hR : Rel w0 G0 N F m e a.tmps) {o : Operand} {x : V} (h : e.one o = some x) : Lv m x (a.eval o) := by
  unfold Env.one at h
  cases hv : e.val o with
  | none => simp [hv] at h
  | some s =>
    have := val_sv hR hv
    cases s with
    | one y => simp only [hv, Option.some.injEq] at h; subst h; exact this
    | agg l => simp [hv] at h
    | tup l => simp [hv] at h
theorem chk_some {ρ : Type} {b : Bool} {x : Option ρ} {r : ρ} (h : chk b x = some r) : b = true ∧ x = some r := by
  cases b with
  | true => exact ⟨rfl, h⟩
  | false => simp [chk, br] at h
theorem chk_dec {ρ : Type} {p : Prop} [Decidable p] {x : Option ρ} {r : ρ} (h : chk (decide p) x = some r) : p ∧ x = some r := by
  obtain ⟨h1, h2⟩ := chk_some h
  exact ⟨of_decide_eq_true h1, h2⟩
theorem tyEq_eq {a b : Ty} (h : tyEq a b = true) : a = b := by
  unfold tyEq at h
  cases hd : Ty.decEq a b with
  | isTrue e => exact e
  | isFalse e => rw [hd] at h; simp at h

/-! ### what binary operations come to -/
theorem toList_eq (s : ByteArray) : s.toList = s.data.toList := ByteArray.toList_eq s

theorem evInt_sound {ρ : Type} {op : BinOp} {k : IntKind} {x y : Int} {K : SV → Option ρ} {r : ρ} (h : evInt op k x y K = some r) (t : TypeId) (w : World) :
    ∃ sv v, (binOp op t (.int k x) (.int k y)).run P w = .ok v w ∧ Sv m sv v ∧ K sv = some r := by
  have kk : ∀ {z : Int}, Sv m (.one (.i k z)) (.int k z) := fun {z} => rfl
  have bb : ∀ {z : Bool}, Sv m (.one (.b z)) (.bool z) := fun {z} => rfl
  cases op <;> simp only [evInt] at h
  · refine ⟨_, _, ?_, kk, h⟩; simp [binOp_add, Op.intArith]
  · refine ⟨_, _, ?_, kk, h⟩; simp [binOp_sub, Op.intArith]
  · refine ⟨_, _, ?_, kk, h⟩; simp [binOp_mul, Op.intArith]
  · obtain ⟨h1, h2⟩ := chk_some h
    have hy : ¬ y = 0 := by simpa using h1
    refine ⟨_, _, ?_, kk, h2⟩; simp [binOp_quo, Op.intDiv, hy]
  · obtain ⟨h1, h2⟩ := chk_some h
    have hy : ¬ y = 0 := by simpa using h1
    refine ⟨_, _, ?_, kk, h2⟩; simp [binOp_rem, Op.intDiv, hy]
  · refine ⟨_, _, ?_, kk, h⟩; simp [binOp_and, intBits_and]
  · refine ⟨_, _, ?_, kk, h⟩; simp [binOp_or, intBits_or]
  · refine ⟨_, _, ?_, kk, h⟩; simp [binOp_xor, intBits_xor]
  · simp at h
  · simp at h
  · refine ⟨_, _, ?_, kk, h⟩; simp [binOp_andNot, intBits_andNot]
  · refine ⟨_, _, ?_, bb, h⟩; simp [binOp_eql]
  · refine ⟨_, _, ?_, bb, h⟩; simp [binOp_neq]
  · refine ⟨_, _, ?_, bb, h⟩; simp [binOp_lss]
  · refine ⟨_, _, ?_, bb, h⟩; simp [binOp_leq]
  · refine ⟨_, _, ?_, bb, h⟩; simp [binOp_gtr]
  · refine ⟨_, _, ?_, bb, h⟩; simp [binOp_geq]

theorem ba_size (s : ByteArray) : s.size = s.data.toList.length := by
  rw [Array.length_toList]; rfl
theorem ba_append (s t : ByteArray) : (s ++ t).data.toList = s.data.toList ++ t.data.toList := by
  rw [ByteArray.data_append, Array.toList_append]

theorem evStr_sound {ρ : Type} {op : BinOp} {s t : ByteArray} {K : SV → Option ρ} {r : ρ} (h : evStr op s.data.toList t.data.toList K = some r) (T : TypeId) (w : World) :
    ∃ sv v, (binOp op T (.string s) (.string t)).run P w = .ok v w ∧ Sv m sv v ∧ K sv = some r := by
  have bb : ∀ {z : Bool}, Sv m (.one (.b z)) (.bool z) := fun {z} => rfl
  cases op <;> simp only [evStr] at h
  · obtain ⟨h1, h2⟩ := chk_dec h
    refine ⟨.one (.s (s.data.toList ++ t.data.toList)), .string (s ++ t), ?_, ⟨s ++ t, rfl, ba_append s t⟩, h2⟩
    have hs : ¬ (((s.size + t.size : Nat) : Int) > IntKind.i64.max) := by
      rw [ba_size, ba_size, IntKind.max_i64]
      simp only [capN] at h1
      omega
    simp only [binOp, Op.stringOp]
    rw [if_neg hs]
    rfl
  · simp at h
  · simp at h
  · simp at h
  · simp at h
  · simp at h
  · simp at h
  · simp at h
  · simp at h
  · simp at h
  · simp at h
  · refine ⟨_, _, ?_, bb, h⟩; simp [binOp, Op.stringOp, toList_eq]
  · refine ⟨_, _, ?_, bb, h⟩; simp [binOp, Op.stringOp, toList_eq]
  · refine ⟨_, _, ?_, bb, h⟩; simp [binOp, Op.stringOp, toList_eq]
  · refine ⟨_, _, ?_, bb, h⟩; simp [binOp, Op.stringOp, toList_eq]
  · refine ⟨_, _, ?_, bb, h⟩; simp [binOp, Op.stringOp, toList_eq]
  · refine ⟨_, _, ?_, bb, h⟩; simp [binOp, Op.stringOp, toList_eq]

theorem shl_run (k j : IntKind) (x y : Int) (h : 0 ≤ y) (t : TypeId) (w : World) : (binOp .shl t (.int k x) (.int j y)).run P w = .ok (.int k (k.wrap (x * 2 ^ (min y.toNat k.bits)))) w := by
  have : ¬ y < 0 := by omega
  simp [binOp, Op.shift, this]
theorem shr_run (k j : IntKind) (x y : Int) (h : 0 ≤ y) (t : TypeId) (w : World) : (binOp .shr t (.int k x) (.int j y)).run P w = .ok (.int k (x.fdiv (2 ^ (min y.toNat k.bits)))) w := by
  have : ¬ y < 0 := by omega
  simp [binOp, Op.shift, this]

theorem evBin_sound {ρ : Type} {ty : Ty} {op : BinOp} {x y : SV} {u v : Value} {K : SV → Option ρ} {r : ρ} (h : evBin ty op x y K = some r) (hx : Sv m x u) (hy : Sv m y v) (T : TypeId) (hT : ty = .bool → P.underlying T = some .bool) (o1 o2 : Operand) (w : World) :
    ∃ sv z, (do eqGuard op T o1 o2 u v; binOp op T u v : Sem Value).run P w = .ok z w ∧ Sv m sv z ∧ K sv = some r := by
  cases x with
  | tup l => simp [evBin] at h
  | agg l => simp [evBin] at h
  | one x =>
    cases y with
    | tup l => cases x <;> simp [evBin] at h
    | agg l => cases x <;> simp [evBin] at h
    | one y =>
      cases x with
      | i k n =>
        cases y with
        | i j n' =>
          simp only [Sv, Lv] at hx hy
          subst hx; subst hy
          simp only [eqGuard_at_int, pure_bind]
          have kk : ∀ {z : Int}, Sv m (.one (.i k z)) (.int k z) := fun {z} => rfl
          by_cases h1 : op = .shl
          · subst h1
            simp only [evBin] at h
            obtain ⟨h1, h2⟩ := chk_dec h
            exact ⟨_, _, shl_run k j n n' h1 T w, kk, h2⟩
          · by_cases h2 : op = .shr
            · subst h2
              simp only [evBin] at h
              obtain ⟨h1, h2⟩ := chk_dec h
              exact ⟨_, _, shr_run k j n n' h1 T w, kk, h2⟩
            · have h' : (match kEq k j with
                | true => evInt op k n n' K
                | false => none) = some r := by
                cases op <;> first | exact h | exact absurd rfl h1 | exact absurd rfl h2
              cases hk : kEq k j with
              | false => simp [hk] at h'
              | true =>
                simp only [hk] at h'
                have := kEq_eq hk
                subst this
                exact evInt_sound h' T w
        | _ => simp [evBin] at h
      | b n =>
        cases y with
        | b n' =>
          simp only [Sv, Lv] at hx hy
          subst hx; subst hy
          simp only [eqGuard_at_bool, pure_bind]
          have bb : ∀ {z : Bool}, Sv m (.one (.b z)) (.bool z) := fun {z} => rfl
          cases ty <;> simp only [evBin] at h <;> try (simp at h; done)
          have hu := run_equal_bool (P := P) w T n n' (hT rfl)
          cases op <;> simp only at h <;> first
            | (simp at h; done)
            | (refine ⟨_, _, ?_, bb, h⟩; simp only [binOp, Sem.run_bind, hu]; rfl)
        | _ => simp [evBin] at h
      | s n =>
        cases y with
        | s n' =>
          obtain ⟨a, ha, hl⟩ := hx
          obtain ⟨b, hb, hl'⟩ := hy
          subst ha; subst hb; subst hl; subst hl'
          simp only [eqGuard_at_string, pure_bind]
          simp only [evBin] at h
          exact evStr_sound h T w
        | _ => simp [evBin] at h
      | _ => cases y <;> simp [evBin] at h

theorem evUn_sound {ρ : Type} {op : UnOp} {x : V} {u : Value} {K : SV → Option ρ} {r : ρ} (h : evUn op x K = some r) (hx : Lv m x u) (w : World) :
    ∃ sv z, (Op.unary op u).run P w = .ok z w ∧ Sv m sv z ∧ K sv = some r := by
  cases op <;> cases x <;> simp only [evUn] at h <;> try (simp at h; done)
  · rename_i k n
    simp only [Lv] at hx
    subst hx
    have kk : ∀ {z : Int}, Sv m (.one (.i k z)) (.int k z) := fun {z} => rfl
    exact ⟨_, _, by simp only [Op.unary, Op.intArith]; rfl, kk, h⟩
  · rename_i b
    simp only [Lv] at hx
    subst hx
    have bb : ∀ {z : Bool}, Sv m (.one (.b z)) (.bool z) := fun {z} => rfl
    exact ⟨_, _, by simp only [Op.unary]; rfl, bb, h⟩
end
end Go.Ev
