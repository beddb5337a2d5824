import Derived.Test.YtfdmjgmipnohkaaSrQA
import Derived.Test.YtfdmjgmipnohkaaSrMk
set_option linter.unusedSimpArgs false
set_option linter.unusedVariables false
namespace Go.Ev.T1
open Go Go.Proofs
def AllR {α : Type} (P : α → Prop) (m : Option α) : Prop := ∀ r, m = some r → P r
theorem allR_br {α : Type} {P : α → Prop} {b : Bool} {x y : Option α} (hx : AllR P x) (hy : AllR P y) : AllR P (br b x y) := by
 cases b
 ·exact hy
 ·exact hx
theorem allR_bnd {α β : Type} {P : α → Prop} {m : Option β} {f : β → Option α} (hf : ∀ v, AllR P (f v)) : AllR P (bnd m f) := by
 cases m with
 | none => intro r h; cases h
 | some v => exact hf v
theorem allR_some {α : Type} {P : α → Prop} {x : α} (h : P x) : AllR P (some x) := by intro r e; cases e; exact h
theorem allR_none {α : Type} {P : α → Prop} : AllR P none := by intro r e; cases e
theorem r0 : Rng .i64 0 := by unfold Rng; decide
theorem r1 : Rng .i64 1 := by unfold Rng; decide
theorem r7 : Rng .i64 7 := by unfold Rng; decide
theorem r8 : Rng .i64 8 := by unfold Rng; decide
theorem r9 : Rng .i64 9 := by unfold Rng; decide
theorem r10 : Rng .i64 10 := by unfold Rng; decide
theorem code_put (s : y3q) (v : y0q) : AllR (fun r => Rng .i64 r.2) (F_u19f s v) := by
 unfold F_u19f
 repeat first | refine allR_br ?_ ?_ | (refine allR_bnd fun _ => ?_) | exact allR_some (by first | exact r0 | exact r1 | exact r7 | exact r8 | exact r9 | exact r10) | exact allR_none
theorem code_get (s : y3q) (k : List UInt8) (t : DTime) : AllR (fun r => Rng .i64 r.2.2) (F_u54f s k t) := by
 unfold F_u54f
 repeat first | refine allR_br ?_ ?_ | (refine allR_bnd fun _ => ?_) | exact allR_some (by first | exact r0 | exact r1 | exact r7 | exact r8 | exact r9 | exact r10) | exact allR_none
theorem code_scan (s : y3q) (a b : List UInt8) (t : DTime) (n : Int) : AllR (fun r => Rng .i64 r.2) (F_u23f s a b t n) := by
 unfold F_u23f
 repeat first | refine allR_br ?_ ?_ | (refine allR_bnd fun _ => ?_) | exact allR_some (by first | exact r0 | exact r1 | exact r7 | exact r8 | exact r9 | exact r10) | exact allR_none
theorem code_flush (s : y3q) : AllR (fun r => Rng .i64 r.2) (F_u26f s) := by
 unfold F_u26f
 repeat first | refine allR_br ?_ ?_ | (refine allR_bnd fun _ => ?_) | exact allR_some (by first | exact r0 | exact r1 | exact r7 | exact r8 | exact r9 | exact r10) | exact allR_none
theorem code_compact (s : y3q) (n : Int) : AllR (fun r => Rng .i64 r.2) (F_u27f s n) := by
 unfold F_u27f
 repeat first | refine allR_br ?_ ?_ | (refine allR_bnd fun _ => ?_) | exact allR_some (by first | exact r0 | exact r1 | exact r7 | exact r8 | exact r9 | exact r10) | exact allR_none
theorem code_collect (s : y3q) (t : DTime) : AllR (fun r => Rng .i64 r.2) (F_u30f s t) := by
 unfold F_u30f
 repeat first | refine allR_br ?_ ?_ | (refine allR_bnd fun _ => ?_) | exact allR_some (by first | exact r0 | exact r1 | exact r7 | exact r8 | exact r9 | exact r10) | exact allR_none
theorem beqT {a b : Int} (h : a = b) : (a == b) = true := by simp [h]
theorem beqF {a b : Int} (h : ¬ a = b) : (a == b) = false := by simp [h]
theorem noVers : ([] : List y0q).length ≤ 1048576 ∧ ∀ y ∈ ([] : List y0q), Sm_Version 1048576 y := ⟨Nat.zero_le _, fun y hy => by cases hy⟩
theorem do_same (s : y3q) (hs : Sm_Store 1048576 s) (o : y10q) (ho : Sm_StoreOp 1048576 o) (out : List y8q) (ops : List y10q) (N i : Int) : ∃ (n : y3q) (x : y8q), F_u31f s o = some (n, x) ∧
  br (o.1 == 1) (bnd (F_u52f s o.2.1) fun y1 => some (s, out, ((0, false, [], ()) : T88.den), y1.1, y1.2, ops, N, i))
   (br (o.1 == 2) (bnd (F_u54f s o.2.2.1 o.2.2.2.2.1) fun y1 => br y1.2.1 (some (s, out, ((0, y1.2.1, [y1.1], ()) : T88.den), s, y1.2.2, ops, N, i)) (some (s, out, ((0, y1.2.1, [], ()) : T88.den), s, y1.2.2, ops, N, i)))
   (br (o.1 == 3) (bnd (F_u56f s o.2.2.1 o.2.2.2.1 o.2.2.2.2.1 o.2.2.2.2.2.1) fun y1 => some (s, out, ((0, false, y1.1, ()) : T88.den), s, y1.2, ops, N, i))
   (br (o.1 == 4) (bnd (F_u59f s) fun y1 => some (s, out, ((0, false, [], ()) : T88.den), y1.1, y1.2, ops, N, i))
   (br (o.1 == 5) (bnd (F_u60f s o.2.2.2.2.2.1) fun y1 => some (s, out, ((0, false, [], ()) : T88.den), y1.1, y1.2, ops, N, i))
   (br (o.1 == 6) (bnd (F_u62f s o.2.2.2.2.1) fun y1 => some (s, out, ((0, false, [], ()) : T88.den), y1.1, y1.2, ops, N, i))
    (some (s, out, ((0, false, [], ()) : T88.den), s, (1 : Int), ops, N, i))))))) = some (s, out, ((0, x.2.1, x.2.2.1, ()) : T88.den), n, x.1, ops, N, i) ∧ Sm_Store 1048576 n ∧ Sm_StoreObs 1048576 x := by
 unfold F_u31f
 obtain ⟨o1, o2, o3, o4, o5, o6⟩ := ho
 by_cases h1 : o.1 = 1
 ·obtain ⟨r, e1, e2, e3⟩ := put_same s hs o.2.1 o2
  rw [beqT h1, brT, brT, e1, e2]
  exact ⟨_, _, rfl, rfl, e3, code_put _ _ _ e1, noVers⟩
 rw [beqF h1, brF, brF]
 by_cases h2 : o.1 = 2
 ·obtain ⟨r, e1, e2, e3⟩ := get_same s hs o.2.2.1 o.2.2.2.2.1
  rw [beqT h2, brT, brT, e1, e2, y6q, y6q]
  have hc := code_get _ _ _ _ e2
  have hv : Sm_Version 1048576 r.1 := by
   rcases e3 with e3 | e3
   ·exact sm_raw hs e3
   ·rw [e3]; exact sm_zv
  cases hf : r.2.1 with
  | true => exact ⟨_, _, rfl, rfl, hs, hc, by simp, fun y hy => by rw [List.mem_singleton.1 hy]; exact hv⟩
  | false => exact ⟨_, _, rfl, rfl, hs, hc, noVers⟩
 rw [beqF h2, brF, brF]
 by_cases h3 : o.1 = 3
 ·obtain ⟨r, e1, e2, e3⟩ := scan_store s hs o.2.2.1 o.2.2.2.1 o.2.2.2.2.1 o.2.2.2.2.2.1
  rw [beqT h3, brT, brT, e1, e2]
  exact ⟨_, _, rfl, rfl, hs, code_scan _ _ _ _ _ _ e1, e3⟩
 rw [beqF h3, brF, brF]
 by_cases h4 : o.1 = 4
 ·obtain ⟨r, e1, e2, e3⟩ := flush_same s hs
  rw [beqT h4, brT, brT, e1, e2]
  exact ⟨_, _, rfl, rfl, e3, code_flush _ _ e1, noVers⟩
 rw [beqF h4, brF, brF]
 by_cases h5 : o.1 = 5
 ·obtain ⟨r, e1, e2, e3⟩ := compact_same s hs o.2.2.2.2.2.1
  rw [beqT h5, brT, brT, e1, e2]
  exact ⟨_, _, rfl, rfl, e3, code_compact _ _ _ e1, noVers⟩
 rw [beqF h5, brF, brF]
 by_cases h6 : o.1 = 6
 ·obtain ⟨r, e1, e2, e3⟩ := collect_same s hs o.2.2.2.2.1 o5
  rw [beqT h6, brT, brT, e1, e2]
  exact ⟨_, _, rfl, rfl, e3, code_collect _ _ _ e1, noVers⟩
 rw [beqF h6, brF, brF]
 exact ⟨_, _, rfl, rfl, hs, by unfold Rng; decide, noVers⟩
theorem step_same (s : y3q) (hs : Sm_Store 1048576 s) (ops : List y10q) (hops : ∀ o ∈ ops, Sm_StoreOp 1048576 o) (hl : ops.length ≤ 1048576) (out : List y8q) (i : Nat) (hi : i < ops.length) (hlen : out.length = i) :
  ∃ (n : y3q) (x : y8q), Sm_Store 1048576 n ∧ Sm_StoreObs 1048576 x ∧ (∀ C, B_u32f_l0 (ops, s, out, (i : Int)) C = C (ops, n, out ++ [x], ((i + 1 : Nat) : Int))) ∧
   ∀ C, B_u63f_l0 (s, out, ops, (ops.length : Int), (i : Int)) C = C (n, out ++ [x], ops, (ops.length : Int), ((i + 1 : Nat) : Int)) := by
 have ho : Sm_StoreOp 1048576 (ops.getD i y24q) := by rw [y33q hi]; exact hops _ (List.getElem_mem hi)
 obtain ⟨n, x, h1, h2, h3, h4⟩ := do_same s hs _ ho out ops (ops.length : Int) (i : Int)
 by_cases hc : x.1 = 0
 ·refine ⟨n, x, h3, h4, fun C => ?_, fun C => ?_⟩
  ·unfold B_u32f_l0
   simp (disch := omega) only [y9q, Int.toNat_natCast]
   rw [y2q (by omega), y2q (by omega), y2q (by omega), h1, y6q, beqT hc, brT, y2q (by simp only [List.length_cons, List.length_nil]; unfold capN; omega)]
  ·unfold B_u63f_l0
   simp (disch := omega) only [y9q, Int.toNat_natCast]
   rw [y2q (by omega), y2q (by omega), y2q (by omega), h2, y6q, beqT hc, brT, y6q]
   simp (disch := omega) only [y9q]
   rw [y2q (by simp only [List.length_cons, List.length_nil]; unfold capN; omega)]
 ·refine ⟨s, x, hs, h4, fun C => ?_, fun C => ?_⟩
  ·unfold B_u32f_l0
   simp (disch := omega) only [y9q, Int.toNat_natCast]
   rw [y2q (by omega), y2q (by omega), y2q (by omega), h1, y6q, beqF hc, brF, y2q (by simp only [List.length_cons, List.length_nil]; unfold capN; omega)]
  ·unfold B_u63f_l0
   simp (disch := omega) only [y9q, Int.toNat_natCast]
   rw [y2q (by omega), y2q (by omega), y2q (by omega), h2, y6q, beqF hc, brF, y6q]
   simp (disch := omega) only [y9q]
   rw [y2q (by simp only [List.length_cons, List.length_nil]; unfold capN; omega)]
theorem loop_same (ops : List y10q) (hops : ∀ o ∈ ops, Sm_StoreOp 1048576 o) (hl : ops.length ≤ 1048576) : ∀ (n i : Nat) (s : y3q) (out : List y8q), Sm_Store 1048576 s → (∀ y ∈ out, Sm_StoreObs 1048576 y) → out.length = i → i ≤ ops.length → ops.length < n + i →
  ∃ res, forG B_u32f_l0 n (ops, s, out, (i : Int)) = some res ∧ forG B_u63f_l0 n (s, out, ops, (ops.length : Int), (i : Int)) = some res ∧ res.length = ops.length ∧ ∀ y ∈ res, Sm_StoreObs 1048576 y
 | 0, i, s, out, _, _, _, h1, h2 => absurd h2 (by omega)
 | n + 1, i, s, out, hs, hout, hlen, h1, h2 => by
  simp only [forG]
  by_cases hi : i < ops.length
  ·obtain ⟨s', x, k1, k2, k3, k4⟩ := step_same s hs ops hops hl out i hi hlen
   rw [k3, k4]
   exact loop_same ops hops hl n (i + 1) s' (out ++ [x]) k1 (fun y hy => by
    rcases List.mem_append.1 hy with hy | hy
    ·exact hout y hy
    ·rw [List.mem_singleton.1 hy]; exact k2) (by simp [hlen]) hi (by omega)
  ·refine ⟨out, ?_, ?_, by omega, hout⟩
   ·unfold B_u32f_l0
    dsimp only
    rw [y11q (by omega)]
   ·unfold B_u63f_l0
    dsimp only
    rw [y11q (by omega)]
theorem run_same (ops : List y10q) (hops : ops.length ≤ 1048576 ∧ ∀ o ∈ ops, Sm_StoreOp 1048576 o) : ∃ r, F_u32f ops = some r ∧ F_u63f ops = some r ∧ (r.1.length ≤ 1048576 ∧ ∀ y ∈ r.1, Sm_StoreObs 1048576 y) := by
 have hz : Sm_Store 1048576 ([], [], (0, 0, ()), ()) := ⟨⟨Nat.zero_le _, fun y hy => by cases hy⟩, ⟨Nat.zero_le _, fun y hy => by cases hy⟩, by unfold Sm_Time Rng; decide⟩
 unfold F_u32f F_u63f
 by_cases h : (ops.length : Int) > 500
 ·rw [y2q h, y2q h]
  exact ⟨_, rfl, rfl, Nat.zero_le _, fun y hy => by cases hy⟩
 rw [y11q h, y11q h]
 obtain ⟨res, h1, h2, h3, h4⟩ := loop_same ops hops.2 hops.1 (((ops.length : Nat) : Int).toNat + 1) 0 ([], [], (0, 0, ()), ()) [] hz (fun y hy => by cases hy) rfl (Nat.zero_le _) (by simp)
 have e1 : F_u32f_l0 ops ([], [], (0, 0, ()), ()) [] 0 = some res := h1
 have e2 : F_u63f_l0 ([], [], (0, 0, ()), ()) [] ops (ops.length : Int) 0 = some res := h2
 rw [e1, e2]
 exact ⟨_, rfl, rfl, by show res.length ≤ _; omega, h4⟩
theorem law_StoreRun (a : List y23q) (ha : a.length ≤ maxLen ∧ ∀ y ∈ a, Sm_LStoreOp maxLen y) : F_u77f a = some true := by
 unfold F_u77f
 obtain ⟨r, hr, h⟩ := sz_StoreOpS a 1048576 (by decide) (by decide) ha
 rw [hr, y6q]
 rcases h with rfl | ⟨r0, r1, hs⟩
 ·exact y2q (by decide) _ _
 rw [y11q (by omega)]
 have hs' : a.length ≤ 1048576 ∧ ∀ y ∈ (a : List y10q), Sm_StoreOp 1048576 y := hs
 obtain ⟨g, h1, h2, h3⟩ := run_same a hs'
 obtain ⟨k1, x1, e1, g1, g1'⟩ := mk_StoreOpS a 1 hs' (by decide) (by decide)
 obtain ⟨k2, x2, e2, f2, g2, g2'⟩ := mk_StoreObsS g.1 1 h3 (by decide) (by decide)
 have n1 : decide (k1 < 0) = false := decide_eq_false (by omega)
 have n2 : decide (k2 < 0) = false := decide_eq_false (by omega)
 simp only [to_StoreOpS a hs, y6q, h1, h2, eq_StoreObsS g.1 h3, eq_StoreOpS (a : List y10q) hs', e1, e2, f2, n1, n2, beq_self_eq_true, bne_self_eq_false, Bool.not_true, y58q]
end Go.Ev.T1
