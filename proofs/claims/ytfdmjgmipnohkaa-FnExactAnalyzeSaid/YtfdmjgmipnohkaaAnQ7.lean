/- Analyze: the number of values, the bounds, both ways. -/
import Derived.Test.YtfdmjgmipnohkaaAnQ6
set_option linter.unusedSimpArgs false
set_option linter.unusedVariables false
set_option maxRecDepth 100000
namespace Go.Ev.T1
open Go Go.Proofs
theorem run_loop {T X : Type} {B : T → (T → Option X) → Option X} {yes : Option X} (emb : Nat → T) (N : Nat) (hstep : ∀ i C, i < N → B (emb i) C = C (emb (i + 1))) (hend : ∀ C, B (emb N) C = yes) {n : Nat} (hn : N < n) :
    forG B n (emb 0) = yes :=
  (ans_loop (no := none) emb N (fun _ => True) (fun i C hi _ => ans_end (hstep i C hi)) (fun C _ => hend C) hn).1 fun _ _ => trivial
/-- a value that begins a run of equals -/
def Nw (L : List DValue) (k : Nat) : Prop := k = 0 ∨ ¬ cv (L.getD (k - 1) ZValue) (L.getD k ZValue) = 0
instance (L : List DValue) (k : Nat) : Decidable (Nw L k) := by unfold Nw; infer_instance
def dst (L : List DValue) : Nat → Nat
  | 0 => 0
  | k + 1 => dst L k + if Nw L k then 1 else 0
theorem dst_le (L : List DValue) : ∀ k, dst L k ≤ k
  | 0 => Nat.le_refl _
  | k + 1 => by have := dst_le L k; simp only [dst]; split <;> omega
theorem implDistinct (c n nu : Int) (L : List DValue) (hn : Nn L) (h1 : One L) (hl : L.length ≤ 2000) :
    F_impl_Analyze_l4 c (n, nu, 0, [], [], ()) L L.length 0 = some (c, (n, nu, (dst L L.length : Int), [], [], ()), L) := by
  unfold F_impl_Analyze_l4
  refine run_loop (fun k => (c, (n, nu, (dst L k : Int), [], [], ()), L, (L.length : Int), ((k : Nat) : Int))) L.length (fun k C hk => ?_) (fun C => ?_) (by omega)
  · have hd := dst_le L k
    unfold B_impl_Analyze_l4
    simp (disch := omega) only [wrap_succ, Int.toNat_natCast]
    rw [br_pos (by omega), beq_dec, br_if]
    by_cases h0 : k = 0
    · have e : dst L (k + 1) = dst L k + 1 := by simp only [dst]; rw [if_pos (show Nw L k from Or.inl h0)]
      rw [if_pos (by omega), e]
    · rw [if_neg (by omega)]
      have e : IntKind.i64.wrap ((k : Int) - 1) = ((k - 1 : Nat) : Int) := by rw [wrap_eq (by omega) (by omega)]; omega
      rw [e, Int.toNat_natCast, br_pos (by omega), br_pos (by omega), br_pos (by omega), br_pos (by omega), kcmp hn h1 (mem_getD (by omega)) (mem_getD hk), bnd_some', bne_dec, br_if]
      by_cases hc : cv (L.getD (k - 1) ZValue) (L.getD k ZValue) = 0
      · have e : dst L (k + 1) = dst L k := by simp only [dst]; rw [if_neg (by unfold Nw; rintro (h | h); exact h0 h; exact h hc)]; rfl
        rw [if_neg (fun h => h hc), e]
      · have e : dst L (k + 1) = dst L k + 1 := by simp only [dst]; rw [if_pos (show Nw L k from Or.inr hc)]
        rw [if_pos hc, e]
  · unfold B_impl_Analyze_l4
    exact br_neg (Int.lt_irrefl _) _ _
/-- a bound more, when it is not the last one's equal -/
def addB (B : List DValue) (v : DValue) : List DValue := if B.length = 0 then B ++ [v] else if cv (B.getD (B.length - 1) ZValue) v = 0 then B else B ++ [v]
theorem addB_mem {L B : List DValue} {v : DValue} (hB : ∀ x ∈ B, x ∈ L) (hv : v ∈ L) : ∀ x ∈ addB B v, x ∈ L := by
  intro x hx
  unfold addB at hx
  have key : x ∈ B ++ [v] → x ∈ L := fun h => by
    rcases List.mem_append.1 h with h | h
    · exact hB x h
    · rw [List.mem_singleton] at h; subst h; exact hv
  split at hx
  · exact key hx
  · split at hx
    · exact hB x hx
    · exact key hx
theorem addB_len (B : List DValue) (v : DValue) : (addB B v).length ≤ B.length + 1 := by
  unfold addB; split
  · simp
  · split <;> simp
theorem implBound (n nu d : Int) (B : List DValue) (v : DValue) (cs : List Int) (L : List DValue) (hn : Nn L) (h1 : One L) (hB : ∀ x ∈ B, x ∈ L) (hv : v ∈ L) (hl : B.length ≤ 2000) :
    F_impl_Analyze_2 v (n, nu, d, B, cs, ()) = some (n, nu, d, addB B v, cs, ()) := by
  unfold F_impl_Analyze_2 addB
  simp only
  rw [beq_dec, br_if]
  by_cases h0 : B.length = 0
  · rw [if_pos (by omega), if_pos h0, br_pos (by simp only [List.length_singleton]; unfold capN; omega)]
  · rw [if_neg (by omega), if_neg h0]
    have e : IntKind.i64.wrap ((B.length : Int) - 1) = ((B.length - 1 : Nat) : Int) := by rw [wrap_eq (by omega) (by omega)]; omega
    rw [e, Int.toNat_natCast, br_pos (by omega), br_pos (by omega), kcmp hn h1 (hB _ (mem_getD (by omega))) hv, bnd_some', bne_dec, br_if]
    by_cases hc : cv (B.getD (B.length - 1) ZValue) v = 0
    · rw [if_neg (fun h => h hc), if_pos hc]
    · rw [if_pos hc, if_neg hc, br_pos (by simp only [List.length_singleton]; unfold capN; omega)]
/-- the reference's bounds ahead of place k -/
def sbs (step : Nat) (L : List DValue) : Nat → List DValue
  | 0 => []
  | k + 1 => if (k + 1) % step = 0 ∨ k + 1 = L.length then addB (sbs step L k) (L.getD k ZValue) else sbs step L k
/-- without the last one -/
def sbm (step : Nat) (L : List DValue) : Nat → List DValue
  | 0 => []
  | k + 1 => if (k + 1) % step = 0 then addB (sbm step L k) (L.getD k ZValue) else sbm step L k
theorem sbs_mem (step : Nat) (L : List DValue) : ∀ k, k ≤ L.length → ∀ x ∈ sbs step L k, x ∈ L
  | 0, _ => fun x h => by cases h
  | k + 1, hk => by
    simp only [sbs]; split
    · exact addB_mem (sbs_mem step L k (by omega)) (mem_getD (by omega))
    · exact sbs_mem step L k (by omega)
theorem sbm_mem (step : Nat) (L : List DValue) : ∀ k, k ≤ L.length → ∀ x ∈ sbm step L k, x ∈ L
  | 0, _ => fun x h => by cases h
  | k + 1, hk => by
    simp only [sbm]; split
    · exact addB_mem (sbm_mem step L k (by omega)) (mem_getD (by omega))
    · exact sbm_mem step L k (by omega)
theorem sbs_len (step : Nat) (L : List DValue) : ∀ k, (sbs step L k).length ≤ k
  | 0 => Nat.le_refl _
  | k + 1 => by
    have := sbs_len step L k
    have h := addB_len (sbs step L k) (L.getD k ZValue)
    simp only [sbs]; split <;> omega
theorem sbm_len (step : Nat) (L : List DValue) : ∀ k, (sbm step L k).length ≤ k
  | 0 => Nat.le_refl _
  | k + 1 => by
    have := sbm_len step L k
    have h := addB_len (sbm step L k) (L.getD k ZValue)
    simp only [sbm]; split <;> omega
theorem sbs_sbm (step : Nat) (L : List DValue) : ∀ k, k < L.length → sbs step L k = sbm step L k
  | 0, _ => rfl
  | k + 1, h => by
    simp only [sbs, sbm]
    rw [sbs_sbm step L k (by omega)]
    by_cases g : (k + 1) % step = 0
    · rw [if_pos (Or.inl g), if_pos g]
    · rw [if_neg (by rintro (h' | h'); exact g h'; omega), if_neg g]
theorem cv_self (a : DValue) : cv a a = 0 := by
  unfold cv tc sg; split
  · rw [lt_irr]; rfl
  · rw [if_neg (by omega), if_neg (by omega)]
theorem addB_addB (B : List DValue) (v : DValue) : addB (addB B v) v = addB B v := by
  have key : ∀ B : List DValue, addB (B ++ [v]) v = B ++ [v] := by
    intro B
    unfold addB
    rw [if_neg (by simp), if_pos]
    simp [List.getD_eq_getElem?_getD, cv_self]
  unfold addB
  by_cases h : B.length = 0
  · rw [if_pos h]; exact key B
  · rw [if_neg h]
    by_cases hc : cv (B.getD (B.length - 1) ZValue) v = 0
    · rw [if_pos hc, if_neg h, if_pos hc]
    · rw [if_neg hc]; exact key B
/-- the last bound, both ways -/
theorem sbs_last (step : Nat) (L : List DValue) (h : 0 < L.length) : sbs step L L.length = addB (sbm step L L.length) (L.getD (L.length - 1) ZValue) := by
  obtain ⟨k, hk⟩ : ∃ k, L.length = k + 1 := ⟨L.length - 1, by omega⟩
  rw [hk, Nat.add_sub_cancel]
  simp only [sbs, sbm]
  rw [if_pos (Or.inr hk.symm), sbs_sbm step L k (by omega)]
  split
  · rw [addB_addB]
  · rfl
end Go.Ev.T1
