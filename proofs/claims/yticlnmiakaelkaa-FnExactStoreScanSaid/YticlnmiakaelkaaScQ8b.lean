/- StoreScan: the loops. -/
import Derived.Test.YticlnmiakaelkaaScQ8
set_option linter.unusedSimpArgs false
set_option linter.unusedVariables false
namespace Go.Ev.T1
open Go Go.Proofs
theorem sel_br {X : Type} (fr to k : List UInt8) (x y : Option X) : br (!Op.bytesLess k fr) (br (decide (to = [])) x (br (Op.bytesLess k to) x y)) y = if Sel fr to k then x else y := by
  by_cases h1 : Op.bytesLess k fr = true
  · rw [h1, if_neg (fun h => h.1 h1)]; rfl
  · have e : Op.bytesLess k fr = false := by simpa using h1
    rw [e]
    show br (decide (to = [])) _ _ = _
    by_cases h2 : to = []
    · rw [br_pos h2, if_pos (show Sel fr to k from ⟨h1, .inl h2⟩)]
    · rw [br_neg h2]
      by_cases h3 : Op.bytesLess k to = true
      · rw [h3, if_pos (show Sel fr to k from ⟨h1, .inr h3⟩)]; rfl
      · rw [if_neg (show ¬ Sel fr to k from fun h => h.2.elim h2 h3)]
        have e3 : Op.bytesLess k to = false := by simpa using h3
        rw [e3]; rfl
theorem addFirst_cons (at_ : DTime) (most : Int) (out : List DVersion) (k : List UInt8) (v : DVersion) (l : List DVersion) : addFirst at_ most out k (v :: l) = if v.1 = k then (if Later v.2.1 at_ then addFirst at_ most out k l else put1 most out v) else out := by rw [addFirst]
theorem sput_len (fr to : List UInt8) (most : Int) : ∀ (l out : List DVersion), (l.foldl (sput fr to most) out).length ≤ out.length + l.length
  | [], out => by simp
  | v :: l, out => by
    rw [List.foldl_cons]
    have := sput_len fr to most l (sput fr to most out v)
    have h2 : (sput fr to most out v).length ≤ out.length + 1 := by unfold sput; split <;> simp
    simp only [List.length_cons]; omega
theorem specScanL (fr to : List UInt8) (most : Int) (M : List DVersion) (hM : M.length ≤ 1048576) : F_spec_l03Scan_l0 fr to most M [] 0 = some (M.foldl (sput fr to most) []) := by
  unfold F_spec_l03Scan_l0
  have := loop_run (B := B_spec_l03Scan_l0) (fun i => (fr, to, most, M, (M.take i).foldl (sput fr to most) [], ((i : Nat) : Int))) M.length (some (M.foldl (sput fr to most) [])) (fun i C hi => ?_) (fun C => ?_) (((M.length : Nat) : Int).toNat + 1) 0 (Nat.zero_le _) (by simp)
  · exact this
  · have hn := sput_len fr to most (M.take i) []
    have e : (M.take (i + 1)).foldl (sput fr to most) [] = sput fr to most ((M.take i).foldl (sput fr to most) []) (M.getD i ZVersion) := by
      rw [List.take_succ_eq_append_getElem hi, List.foldl_append, getD_lt hi]; rfl
    rw [e]
    simp only [List.length_take, List.length_nil] at hn
    generalize (M.take i).foldl (sput fr to most) [] = out at hn ⊢
    unfold B_spec_l03Scan_l0
    generalize hv : M.getD i ZVersion = v
    have hcap : out.length + [v].length ≤ capN := by simp only [List.length_cons, List.length_nil]; unfold capN; omega
    simp (disch := omega) only [wrap_succ, Int.toNat_natCast, hv, beq_dec]
    rw [br_pos (show ((i : Nat) : Int) < M.length by omega), br_pos (by omega), br_pos (by omega)]
    simp only [br_pos (show (0 : Int) ≤ ((i : Nat) : Int) by omega), br_pos (show ((i : Nat) : Int) < M.length by omega), br_pos hcap]
    rw [sel_br]
    unfold sput
    by_cases h1 : Sel fr to v.1
    · rw [if_pos h1]
      by_cases h2 : (out.length : Int) < most
      · rw [br_pos h2, if_pos ⟨h1, h2⟩]
      · rw [br_neg h2, if_neg (fun h => h2 h.2)]
    · rw [if_neg h1, if_neg (fun h => h1 h.1)]
  · unfold B_spec_l03Scan_l0
    rw [br_neg (by simp)]
    rw [List.take_length]
theorem drop_cons {α : Type} {l : List α} {i : Nat} {z : α} (h : i < l.length) : l.drop i = l.getD i z :: l.drop (i + 1) := by
  rw [getD_lt h, List.getElem_cons_drop]
theorem implInner (fr to : List UInt8) (at_ : DTime) (most : Int) (L : List DVersion) (hL : L.length ≤ 1048576) (v : DVersion) (a b : Int) : ∀ n j (out : List DVersion), j ≤ L.length → L.length < n + j → out.length ≤ 1048576 →
    forG B_impl_scanned_l2 n (L, fr, to, most, at_, out, v, ((j : Nat) : Int), L, a, b) = some (L, fr, to, most, at_, addFirst at_ most out v.1 (L.drop j), L, a, b)
  | 0, j, out, h1, h2, _ => absurd h1 (by omega)
  | n + 1, j, out, h1, h2, ho => by
    simp only [forG]
    by_cases hj : j < L.length
    · have ih := implInner fr to at_ most L hL v a b n (j + 1) out hj (by omega) ho
      rw [drop_cons (z := ZVersion) hj]
      rw [addFirst_cons]
      generalize forG B_impl_scanned_l2 n = C at ih ⊢
      unfold B_impl_scanned_l2
      generalize hx : L.getD j ZVersion = x at *
      have hcap : out.length + [x].length ≤ capN := by simp only [List.length_cons, List.length_nil]; unfold capN; omega
      simp (disch := omega) only [wrap_succ, Int.toNat_natCast, hx, beq_dec, implTime]
      simp only [br_pos (show (0 : Int) ≤ ((j : Nat) : Int) by omega), br_pos (show ((j : Nat) : Int) < L.length by omega), br_pos hcap, bnd_some']
      by_cases hk : x.1 = v.1
      · rw [br_pos hk, if_pos hk]
        by_cases hl : Later x.2.1 at_
        · rw [br_neg (show ¬ tcmp x.2.1 at_ ≤ 0 by have := tcmp_pos.2 hl; omega), if_pos hl]; exact ih
        · rw [br_pos (show tcmp x.2.1 at_ ≤ 0 by have h3 : ¬ tcmp x.2.1 at_ > 0 := fun h => hl (tcmp_pos.1 h); omega), if_neg hl]
          unfold put1
          cases hd : x.2.2.1
          · show br true _ _ = _
            rw [br_true]
            by_cases h2 : (out.length : Int) < most
            · rw [br_pos h2, if_pos h2]; rfl
            · rw [br_neg h2, if_neg h2]; rfl
          · rfl
      · rw [br_neg hk, if_neg hk]
    · have : j = L.length := by omega
      subst this
      unfold B_impl_scanned_l2
      rw [br_neg (by simp)]
      rw [List.drop_length]; rfl
theorem addFirst_len (at_ : DTime) (most : Int) (k : List UInt8) : ∀ (l out : List DVersion), (addFirst at_ most out k l).length ≤ out.length + 1
  | [], out => by unfold addFirst; omega
  | v :: l, out => by
    rw [addFirst_cons]
    split
    · split
      · exact addFirst_len at_ most k l out
      · unfold put1; split
        · omega
        · split <;> simp
    · omega
theorem sel_br2 {X : Type} (fr to k : List UInt8) (x y : Option X) : br (Op.bytesLess k fr) y (br (!decide (to = [])) (br (!Op.bytesLess k to) y x) x) = if Sel fr to k then x else y := by
  by_cases h1 : Op.bytesLess k fr = true
  · rw [h1, if_neg (fun h => h.1 h1)]; rfl
  · have e : Op.bytesLess k fr = false := by simpa using h1
    rw [e]
    show br (!decide (to = [])) _ _ = _
    rw [br_swap]
    by_cases h2 : to = []
    · rw [br_pos h2, if_pos (show Sel fr to k from ⟨h1, .inl h2⟩)]
    · rw [br_neg h2, br_swap]
      by_cases h3 : Op.bytesLess k to = true
      · rw [h3, if_pos (show Sel fr to k from ⟨h1, .inr h3⟩)]; rfl
      · rw [if_neg (show ¬ Sel fr to k from fun h => h.2.elim h2 h3)]
        have e3 : Op.bytesLess k to = false := by simpa using h3
        rw [e3]; rfl
def prevK (L : List DVersion) (i : Nat) : Option (List UInt8) := if i = 0 then none else some (L.getD (i - 1) ZVersion).1
theorem scanI_cons (fr to : List UInt8) (at_ : DTime) (most : Int) (p : Option (List UInt8)) (out : List DVersion) (v : DVersion) (l : List DVersion) : scanI fr to at_ most p out (v :: l) = if ¬ Sel fr to v.1 ∨ p = some v.1 then scanI fr to at_ most (some v.1) out l else scanI fr to at_ most (some v.1) (addFirst at_ most out v.1 (v :: l)) l := by rw [scanI]
theorem implOuter (fr to : List UInt8) (at_ : DTime) (most : Int) (L : List DVersion) (hL : L.length ≤ 1048576) : ∀ n i (out : List DVersion), i ≤ L.length → L.length < n + i → out.length ≤ i →
    forG B_impl_scanned_l0 n (L, fr, to, most, at_, out, L, ((L.length : Nat) : Int), ((i : Nat) : Int)) = some (scanI fr to at_ most (prevK L i) out (L.drop i))
  | 0, i, out, h1, h2, _ => absurd h1 (by omega)
  | n + 1, i, out, h1, h2, ho => by
    simp only [forG]
    by_cases hi : i < L.length
    · have ih := fun o ho => implOuter fr to at_ most L hL n (i + 1) o hi (by omega) ho
      have inner : F_impl_scanned_l2 L fr to most at_ out (L.getD i ZVersion) ((i : Nat) : Int) L ((L.length : Nat) : Int) ((i : Nat) : Int) = some (L, fr, to, most, at_, addFirst at_ most out (L.getD i ZVersion).1 (L.drop i), L, ((L.length : Nat) : Int), ((i : Nat) : Int)) := by
        unfold F_impl_scanned_l2
        exact implInner fr to at_ most L hL _ _ _ _ i out h1 (by simp; omega) (by omega)
      have hp : prevK L (i + 1) = some (L.getD i ZVersion).1 := by unfold prevK; rw [if_neg (by omega)]; rfl
      rw [hp] at ih
      have ha := addFirst_len at_ most (L.getD i ZVersion).1 (L.drop i) out
      rw [drop_cons (z := ZVersion) hi] at inner ha ⊢
      rw [scanI_cons]
      have hpw : 0 < i → IntKind.i64.wrap ((i : Int) - 1) = ((i - 1 : Nat) : Int) := fun h => wrap_pred (by omega) h
      generalize forG B_impl_scanned_l0 n = C at ih ⊢
      unfold B_impl_scanned_l0
      simp (disch := omega) only [wrap_succ, Int.toNat_natCast, beq_dec, inner]
      rw [br_pos (show ((i : Nat) : Int) < L.length by omega), br_pos (by omega), br_pos (by omega)]
      rw [sel_br2]
      by_cases hs : Sel fr to (L.getD i ZVersion).1
      · rw [if_pos hs]
        by_cases h0 : i = 0
        · subst h0
          rw [br_neg (by simp), if_neg (show ¬ (¬ Sel fr to (L.getD 0 ZVersion).1 ∨ prevK L 0 = some (L.getD 0 ZVersion).1) from fun h => h.elim (fun h => h hs) (fun h => by cases h))]
          rw [bnd_some']
          simp (disch := omega) only [wrap_succ]
          exact ih (addFirst at_ most out (L.getD 0 ZVersion).1 (L.getD 0 ZVersion :: L.drop (0 + 1))) (by omega)
        · have hpr : prevK L i = some (L.getD (i - 1) ZVersion).1 := by unfold prevK; rw [if_neg h0]
          have hw := hpw (by omega)
          rw [br_pos (show ((i : Nat) : Int) > 0 by omega)]
          simp only [hw, Int.toNat_natCast]
          rw [br_pos (by omega), br_pos (by omega), hpr]
          by_cases hk : (L.getD (i - 1) ZVersion).1 = (L.getD i ZVersion).1
          · rw [br_pos hk, if_pos (.inr (by rw [hk]))]
            exact ih out (by omega)
          · rw [br_neg hk, if_neg (show ¬ (¬ Sel fr to (L.getD i ZVersion).1 ∨ some (L.getD (i - 1) ZVersion).1 = some (L.getD i ZVersion).1) from fun h => h.elim (fun h => h hs) (fun h => hk (Option.some.inj h)))]
            rw [bnd_some']
            simp (disch := omega) only [wrap_succ]
            exact ih (addFirst at_ most out (L.getD i ZVersion).1 (L.getD i ZVersion :: L.drop (i + 1))) (by omega)
      · rw [if_neg hs, if_pos (.inl hs)]
        exact ih out (by omega)
    · have : i = L.length := by omega
      subst this
      unfold B_impl_scanned_l0
      rw [br_neg (by simp)]
      rw [List.drop_length]; rfl
theorem implScanned (fr to : List UInt8) (at_ : DTime) (most : Int) (L : List DVersion) (hL : L.length ≤ 1048576) : F_impl_scanned L fr to at_ most = some (scanI fr to at_ most none [] L) := by
  unfold F_impl_scanned F_impl_scanned_l0
  have := implOuter fr to at_ most L hL (((L.length : Nat) : Int).toNat + 1) 0 [] (Nat.zero_le _) (by simp) (by simp)
  rw [show ((0 : Nat) : Int) = 0 from rfl] at this
  rw [this]; rfl
theorem scan_both (fr to : List UInt8) (at_ : DTime) (most : Int) (L : List DVersion) (h : Strict L) : (liveL at_ L).foldl (sput fr to most) [] = scanI fr to at_ most none [] L := by
  rw [liveL_eq, foldl_scan]
  exact (scan_same fr to at_ most L []).1 none none h (fun x _ h => by cases h) (fun x _ h => by cases h)
theorem sput_mem (fr to : List UInt8) (most : Int) : ∀ (l out : List DVersion) (v : DVersion), v ∈ l.foldl (sput fr to most) out → v ∈ out ∨ v ∈ l
  | [], out, v, h => .inl h
  | w :: l, out, v, h => by
    rw [List.foldl_cons] at h
    rcases sput_mem fr to most l _ v h with h | h
    · unfold sput at h
      split at h
      · rcases List.mem_append.1 h with h | h
        · exact .inl h
        · right; rw [List.mem_singleton.1 h]; simp
      · exact .inl h
    · exact .inr (by simp [h])
end Go.Ev.T1
