/- What an operation comes to, apart from what becomes of it. -/
import Derived.Test.YticlnmiakaelkaaEvRun
set_option linter.unusedSimpArgs false
set_option linter.unusedVariables false
namespace Go.Ev

section
variable {ρ : Type} {Γ : Tab} {Δ : List (Nat × Con)} {k : Nat}

abbrev pr (v : SV) (e : Env) : Option (SV × Env) := some (v, e)
theorem chk_bind {α β : Type} (b : Bool) (x : Option α) (f : α → Option β) : (chk b x).bind f = chk b (x.bind f) := by cases b <;> rfl
theorem br_bind {α β : Type} (b : Bool) (x y : Option α) (f : α → Option β) : (br b x y).bind f = br b (x.bind f) (y.bind f) := by cases b <;> rfl
theorem bnd_bind {α β γ : Type} (x : Option α) (g : α → Option β) (f : β → Option γ) : (bnd x g).bind f = bnd x fun y => (g y).bind f := by cases x <;> rfl

theorem evInt_nat (op : BinOp) (q : IntKind) (a b : Int) (K : SV → Option ρ) : evInt op q a b K = (evInt op q a b some).bind K := by
  cases op <;> simp only [evInt, chk_bind, Option.bind_some, Option.bind_none]
theorem evStr_nat (op : BinOp) (a b : List UInt8) (K : SV → Option ρ) : evStr op a b K = (evStr op a b some).bind K := by
  cases op <;> simp only [evStr, chk_bind, Option.bind_some, Option.bind_none]
theorem evBin_nat (u : Ty) (op : BinOp) (x y : SV) (K : SV → Option ρ) : evBin u op x y K = (evBin u op x y some).bind K := by
  unfold evBin
  split
  · split
    · simp only [chk_bind, Option.bind_some]
    · simp only [chk_bind, Option.bind_some]
    · split
      · exact evInt_nat _ _ _ _ _
      · rfl
  · split
    · split <;> rfl
    · rfl
  · exact evStr_nat _ _ _ _
  · rfl
theorem evUn_nat (op : UnOp) (x : V) (K : SV → Option ρ) : evUn op x K = (evUn op x some).bind K := by
  unfold evUn
  split <;> rfl
theorem evIndexAddr_nat (u : Ty) (s : V) (n : Int) (e : Env) (K : SV → Option ρ) : evIndexAddr u s n e K = (evIndexAddr u s n e some).bind K := by
  unfold evIndexAddr
  split
  · split
    · simp only [chk_bind, Option.bind_some]
    · rfl
  · split
    · split
      · simp only [chk_bind, Option.bind_some]
      · rfl
    · split
      · simp only [chk_bind, Option.bind_some]
      · rfl
    · rfl
  · rfl
theorem evSliceN_nat (t : Ty) (xs : List t.den) (lo hi : Option Int) (K : SV → Option ρ) : evSliceN t xs lo hi K = (evSliceN t xs lo hi some).bind K := by
  unfold evSliceN
  split <;> simp only [chk_bind, Option.bind_some]
theorem evSliceS_nat (s : List UInt8) (lo hi : Option Int) (K : SV → Option ρ) : evSliceS s lo hi K = (evSliceS s lo hi some).bind K := by
  unfold evSliceS
  split <;> simp only [chk_bind, Option.bind_some]
/-- from a value to a value and the environment -/
theorem with_env {x : Option SV} (e : Env) (K : SV → Env → Option ρ) : (x.bind fun v => K v e) = (x.bind fun v => pr v e).bind fun p => K p.1 p.2 := by cases x <;> rfl
theorem evSlice_nat (u : Ty) (x : V) (lo hi : Option Operand) (e : Env) (K : SV → Env → Option ρ) : evSlice u x lo hi e K = (evSlice u x lo hi e pr).bind fun p => K p.1 p.2 := by
  unfold evSlice
  split
  · split
    · split
      · rw [evSliceS_nat, evSliceS_nat _ _ _ (fun v => pr v e)]; exact with_env _ _
      · rfl
    · split
      · rw [evSliceN_nat, evSliceN_nat _ _ _ _ (fun v => pr v e)]; exact with_env _ _
      · rfl
    · split
      · split
        · rw [evSliceN_nat, evSliceN_nat _ _ _ _ (fun v => pr v _)]; exact with_env _ _
        · rfl
      · rfl
    · rfl
  · rfl
theorem evLoad_nat (T : Nat) (a : V) (e : Env) (K : SV → Env → Option ρ) : evLoad Γ T a e K = (evLoad Γ T a e pr).bind fun p => K p.1 p.2 := by
  unfold evLoad
  repeat' split
  all_goals rfl
theorem evStore_nat (T : Nat) (a : V) (v : SV) (e : Env) (K : SV → Env → Option ρ) : evStore Γ T a v e K = (evStore Γ T a v e pr).bind fun p => K p.1 p.2 := by
  unfold evStore
  repeat' split
  all_goals rfl
theorem evAppendTo_nat (T : Nat) (t : Ty) (ys : List t.den) (s : V) (e : Env) (K : SV → Env → Option ρ) : evAppendTo T t ys s e K = (evAppendTo T t ys s e pr).bind fun p => K p.1 p.2 := by
  unfold evAppendTo
  repeat' split
  all_goals first | rfl | simp only [chk_bind, Option.bind_some]
theorem evAppend_nat (T : Nat) (s x : V) (e : Env) (K : SV → Env → Option ρ) : evAppend Γ T s x e K = (evAppend Γ T s x e pr).bind fun p => K p.1 p.2 := by
  unfold evAppend
  repeat' split
  all_goals first | rfl | exact evAppendTo_nat _ _ _ _ _ _
theorem evConv_nat (src dst : Ty) (x : V) (e : Env) (K : SV → Env → Option ρ) : evConv src dst x e K = (evConv src dst x e pr).bind fun p => K p.1 p.2 := by
  unfold evConv
  repeat' split
  all_goals rfl
theorem evCall_nat (f : Nat) (vs : List SV) (e : Env) (K : SV → Env → Option ρ) : ∀ (Δ : List (Nat × Con)), evCall k f vs e K Δ = (evCall k f vs e pr Δ).bind fun p => K p.1 p.2
  | [] => rfl
  | (g, c) :: r => by
    have ih := evCall_nat f vs e K r
    simp only [evCall]
    cases Nat.beq f g with
    | false => exact ih
    | true =>
      simp only
      cases flatAll c.res with
      | true =>
        simp only
        cases bindArgs false e.objs c.args vs with
        | none => exact ih
        | some x => simp only [bnd_bind, Option.bind_some]
      | false =>
        simp only
        cases bindArgs true (e.freeze (reachAll e.objs vs)).objs c.args vs with
        | none => exact ih
        | some x => simp only [bnd_bind, Option.bind_some]
theorem evBuiltin_nat (b : Builtin) (ts : List Nat) (vs : List SV) (e : Env) (K : SV → Env → Option ρ) : evBuiltin Γ b ts vs e K = (evBuiltin Γ b ts vs e pr).bind fun p => K p.1 p.2 := by
  unfold evBuiltin
  repeat' split
  all_goals first | rfl | exact evAppend_nat _ _ _ _ _

theorem evOp_nat (o : Op) (e : Env) (K : SV → Env → Option ρ) : evOp Γ Δ k o e K = (evOp Γ Δ k o e pr).bind fun p => K p.1 p.2 := by
  cases o with
  | move x => simp only [evOp]; split <;> rfl
  | assign x => simp only [evOp]; split <;> rfl
  | pick c a b =>
    simp only [evOp]
    split
    · rw [br_bind]
      congr 1 <;> (split <;> rfl)
    · rfl
  | alloc T => simp only [evOp]; split <;> rfl
  | box T x =>
    simp only [evOp]
    repeat' split
    all_goals rfl
  | build T ps =>
    simp only [evOp]
    repeat' split
    all_goals rfl
  | buildSlice T n ps =>
    simp only [evOp]
    repeat' split
    all_goals rfl
  | load T a =>
    simp only [evOp]
    split
    · exact evLoad_nat _ _ _ _
    · rfl
  | store T a x =>
    simp only [evOp]
    split
    · exact evStore_nat _ _ _ _ _
    · rfl
  | nilCheck x => simp only [evOp]; split <;> rfl
  | binOp op T x y yT =>
    simp only [evOp]
    split
    · rw [evBin_nat, evBin_nat _ _ _ _ (fun v => pr v e)]; exact with_env _ _
    · rfl
  | unOp op T x =>
    simp only [evOp]
    split
    · rw [evUn_nat, evUn_nat _ _ (fun v => pr v e)]; exact with_env _ _
    · rfl
  | convert s d x =>
    simp only [evOp]
    split
    · exact evConv_nat _ _ _ _ _
    · rfl
  | makeFunc fn first caps =>
    cases fn <;> simp only [evOp] <;> first | rfl | (split <;> rfl)
  | makeSlice T l c =>
    simp only [evOp]
    repeat' split
    all_goals first | rfl | simp only [chk_bind, Option.bind_some]
  | slice T x lo hi mx =>
    cases mx with
    | some => simp only [evOp]; rfl
    | none =>
      simp only [evOp]
      split
      · exact evSlice_nat _ _ _ _ _ _
      · rfl
  | fieldAddr T x i =>
    simp only [evOp]
    repeat' split
    all_goals rfl
  | indexAddr T x i =>
    simp only [evOp]
    split
    · rw [evIndexAddr_nat, evIndexAddr_nat _ _ _ _ (fun v => pr v e)]; exact with_env _ _
    · rfl
  | index T x i =>
    simp only [evOp]
    repeat' split
    all_goals first | rfl | simp only [chk_bind, Option.bind_some]
  | extract x i =>
    simp only [evOp]
    repeat' split
    all_goals rfl
  | call c =>
    obtain ⟨callee, args, ts⟩ := c
    cases callee with
    | builtin b =>
      simp only [evOp]
      split
      · exact evBuiltin_nat _ _ _ _ _
      · rfl
    | value f =>
      simp only [evOp]
      split
      · exact evCall_nat _ _ _ _ _
      · rfl
    | invoke r n => simp only [evOp]; rfl
  | _ => simp only [evOp]; rfl
end
end Go.Ev
