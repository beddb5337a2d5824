/- Digits: both ways the same number. -/
import Derived.Test.YthcpfdomggaaaaaGreatDoorRvF
import Derived.Test.YthcpfdomggaaaaaGreatDoorEvD
import Derived.Lib.IndexLaws
import Derived.Lib.IndexBytes
set_option linter.unusedSimpArgs false
set_option linter.unusedVariables false
set_option maxRecDepth 100000
namespace Go.Ev.T1
open Go Go.Proofs
theorem brT {X : Type} (x y : Option X) : br true x y = x := rfl
theorem brF {X : Type} (x y : Option X) : br false x y = y := rfl
theorem getD_lt {α : Type} {l : List α} {i : Nat} {z : α} (h : i < l.length) : l.getD i z = l[i] := by simp [List.getD_eq_getElem?_getD, h]
theorem u8_lt (c : UInt8) : c.toNat < 256 := c.toNat_lt
theorem loop_run {T X : Type} {B : T → (T → Option X) → Option X} (emb : Nat → T) (N : Nat) (out : Option X) (hstep : ∀ i C, i < N → B (emb i) C = C (emb (i + 1))) (hend : ∀ C, B (emb N) C = out) : ∀ n i, i ≤ N → N < n + i → forG B n (emb i) = out
  | 0, i, h1, h2 => absurd h1 (by omega)
  | n + 1, i, h1, h2 => by
    simp only [forG]
    by_cases hi : i < N
    · rw [hstep i _ hi]; exact loop_run emb N out hstep hend n (i + 1) hi (by omega)
    · have : i = N := by omega
      subst this; exact hend _
def isD (c : UInt8) : Prop := 48 ≤ c.toNat ∧ c.toNat ≤ 57
instance (c : UInt8) : Decidable (isD c) := by unfold isD; infer_instance
def Dig (s : List UInt8) : Prop := ∀ c ∈ s, isD c
instance (s : List UInt8) : Decidable (Dig s) := by unfold Dig; infer_instance
def vstep (n : Nat) (c : UInt8) : Nat := n * 10 + (c.toNat - 48)
def val (s : List UInt8) : Nat := s.foldl vstep 0
theorem val_lt : ∀ (s : List UInt8) (n k : Nat), Dig s → n < 10 ^ k → s.foldl vstep n < 10 ^ (k + s.length)
  | [], n, k, _, h => by simpa using h
  | c :: s, n, k, hd, h => by
    have hc : isD c := hd c (by simp)
    have h2 : vstep n c < 10 ^ (k + 1) := by
      unfold vstep isD at *
      rw [Nat.pow_succ]; omega
    have := val_lt s (vstep n c) (k + 1) (fun x hx => hd x (by simp [hx])) h2
    simp only [List.foldl_cons, List.length_cons]
    rwa [show k + 1 + s.length = k + (s.length + 1) by omega] at this
theorem val_le {s : List UInt8} (hd : Dig s) {k : Nat} (h : s.length ≤ k) : val s < 10 ^ k := by
  have := val_lt s 0 0 hd (by decide)
  rw [Nat.zero_add] at this
  exact Nat.lt_of_lt_of_le this (Nat.pow_le_pow_right (by decide) h)
theorem val_take (s : List UInt8) (i : Nat) (hi : i < s.length) : val (s.take (i + 1)) = vstep (val (s.take i)) (s.getD i 0) := by
  unfold val
  rw [List.take_succ_eq_append_getElem hi, List.foldl_append, getD_lt hi]; rfl
theorem dig_take {s : List UInt8} (h : Dig s) (i : Nat) : Dig (s.take i) := fun c hc => h c (List.mem_of_mem_take hc)
theorem dig_iff {s : List UInt8} : Dig s ↔ ∀ i, i < s.length → isD (s.getD i 0) := by
  constructor
  · intro h i hi; rw [getD_lt hi]; exact h _ (List.getElem_mem hi)
  · intro h c hc
    obtain ⟨i, hi, rfl⟩ := List.getElem_of_mem hc
    have := h i hi
    rwa [getD_lt hi] at this
theorem specDigit (c : UInt8) : F_spec_l01Digit ((c.toNat : Nat) : Int) = some (decide (isD c)) := by
  unfold F_spec_l01Digit
  by_cases h : 48 ≤ c.toNat
  · rw [br_pos (show ((c.toNat : Nat) : Int) ≥ 48 by omega)]; congr 1
    rw [decide_eq_decide]; unfold isD; omega
  · rw [br_neg (show ¬ ((c.toNat : Nat) : Int) ≥ 48 by omega)]; congr 1
    symm; rw [decide_eq_false_iff_not]; unfold isD; omega
theorem specCount0 (s : List UInt8) (h16 : s.length ≤ 16) : Ans (F_spec_l01Count_l0 s 0 0) (some (.inl ((val s : Nat) : Int))) (some (.inr (0, false))) (Dig s) := by
  unfold F_spec_l01Count_l0
  have key := ans_loop (B := B_spec_l01Count_l0) (yes := some (.inl ((val s : Nat) : Int))) (no := some (.inr (0, false))) (fun i => (s, ((val (s.take i) : Nat) : Int), ((i : Nat) : Int))) s.length (fun i => isD (s.getD i 0)) (fun i C hi hb => ?_) (fun C _ => ?_) (n := ((s.length : Nat) : Int).toNat + 1) (by omega)
  · exact ans_iff key dig_iff.symm
  · unfold B_spec_l01Count_l0
    simp (disch := omega) only [wrap_succ, Int.toNat_natCast, specDigit]
    refine ans_iff (ans_chk (by omega) (ans_chk (by omega) (ans_chk (by omega) (ans_val rfl (ans_bool_no fun hd => ans_chk (by omega) (ans_chk (by omega) (ans_end ?_))))))) ?_
    · have hd : isD (s.getD i 0) := by simpa using hd
      have hdt : Dig (s.take i) := by
        rw [dig_iff]; intro j hj
        have hj' : j < i := by simp at hj; omega
        have := hb j hj'
        rw [getD_lt hj, List.getElem_take]
        rwa [getD_lt (show j < s.length by omega)] at this
      have hv := val_le hdt (k := 16) (by simp; omega)
      rw [val_take s i hi]
      unfold vstep isD at *
      have hc := u8_lt (s.getD i 0)
      congr 2
      refine Prod.ext ?_ rfl
      show IntKind.i64.wrap (IntKind.i64.wrap (IntKind.i64.wrap (((val (s.take i) : Nat) : Int) * 10) + IntKind.i64.wrap (((s.getD i 0).toNat : Nat) : Int)) - 48) = _
      rw [wrap_eq (x := ((val (s.take i) : Nat) : Int) * 10) (by omega) (by omega), wrap_eq (x := (((s.getD i 0).toNat : Nat) : Int)) (by omega) (by omega), wrap_eq (x := ((val (s.take i) : Nat) : Int) * 10 + (((s.getD i 0).toNat : Nat) : Int)) (by omega) (by omega), wrap_eq (by omega) (by omega)]
      omega
    · simp only [and_true]
      simp
  · unfold B_spec_l01Count_l0
    rw [br_neg (by simp), List.take_length]
theorem specCount (s : List UInt8) : F_spec_l01Count s = some (if 1 ≤ s.length ∧ s.length ≤ 16 ∧ Dig s then (((val s : Nat) : Int), true) else (0, false)) := by
  unfold F_spec_l01Count
  simp only [beq_dec]
  by_cases h0 : (s.length : Int) = 0
  · rw [br_pos h0, if_neg (by omega)]
  · rw [br_neg h0]
    by_cases h1 : (s.length : Int) > 16
    · rw [br_pos h1, if_neg (by omega)]
    · rw [br_neg h1]
      have key := specCount0 s (by omega)
      by_cases hd : Dig s
      · rw [key.1 hd, if_pos ⟨by omega, by omega, hd⟩]; rfl
      · rw [key.2 hd, if_neg (fun h => hd h.2.2)]; rfl
def digs : List UInt8 := [48, 49, 50, 51, 52, 53, 54, 55, 56, 57]
theorem digs_iff (c : UInt8) : digs.contains c = true ↔ isD c := by
  have hall : ∀ n : Fin 256, digs.contains (UInt8.ofNat n.1) = decide (48 ≤ n.1 ∧ n.1 ≤ 57) := by decide +kernel
  have := hall ⟨c.toNat, u8_lt c⟩
  simp only [UInt8.ofNat_toNat] at this
  rw [this, decide_eq_true_iff]; rfl
theorem dropWhile_nil {α : Type} (p : α → Bool) : ∀ l : List α, l.dropWhile p = [] ↔ ∀ x ∈ l, p x = true
  | [] => by simp
  | a :: l => by
    cases h : p a with
    | true => simp [List.dropWhile_cons, h, dropWhile_nil p l]
    | false => simp [List.dropWhile_cons, h]
theorem trim_nil (s : List UInt8) : Go.Lib.trimS s digs = [] ↔ Dig s := by
  unfold Go.Lib.trimS Go.Lib.trimLeftS Go.Lib.trimRightS
  rw [dropWhile_nil]
  constructor
  · intro h c hc
    have hsuf : ∀ x ∈ s.reverse.dropWhile (digs.contains ·), digs.contains x = true := fun x hx => h x (by simpa using hx)
    have : s.reverse.dropWhile (digs.contains ·) = [] := by
      cases hd : s.reverse.dropWhile (digs.contains ·) with
      | nil => rfl
      | cons a l =>
        have h1 := List.head_dropWhile_not (p := (digs.contains ·)) (l := s.reverse) (by rw [hd]; simp)
        have h2 := hsuf a (by rw [hd]; simp)
        simp only [hd, List.head_cons] at h1
        rw [h2] at h1; cases h1
    rw [dropWhile_nil] at this
    exact (digs_iff c).1 (this c (by simpa using hc))
  · intro h x hx
    have hx' : x ∈ s.reverse.dropWhile (digs.contains ·) := by simpa using hx
    have := (List.dropWhile_suffix (digs.contains ·)).mem hx'
    exact (digs_iff x).2 (h x (by simpa using this))
theorem implDigits (s : List UInt8) (h : s.length ≤ 1048576) : F_impl_digits s = some (decide (s ≠ [] ∧ Dig s)) := by
  unfold F_impl_digits
  cases s with
  | nil => rfl
  | cons a l =>
    have e : strings_Trim 0 (a :: l) [48, 49, 50, 51, 52, 53, 54, 55, 56, 57] = some (Go.Lib.trimS (a :: l) digs) := by
      unfold strings_Trim
      have h1 : Nat.ble (a :: l).length 16777216 = true := Nat.ble_eq_true_of_le (by omega)
      have h2 : (digs.all fun x => decide (x.toNat < 128)) = true := by decide
      have h3 : Nat.ble digs.length 1024 = true := by decide
      show chk (Nat.ble (a :: l).length 16777216) (chk (Nat.ble digs.length 1024) (chk (digs.all fun x => decide (x.toNat < 128)) _)) = _
      rw [h1, h2, h3]; rfl
    rw [e, bnd_some']
    show some (Go.Lib.trimS (a :: l) digs == []) = _
    congr 1
    rw [beq_dec, decide_eq_decide, trim_nil]
    simp
theorem parse_dig : ∀ (s : List UInt8) (n k : Nat), Dig s → n < 10 ^ k → k + s.length ≤ 18 → Go.Lib.parseUint10 n s = .ok (s.foldl vstep n)
  | [], n, k, _, _, _ => rfl
  | c :: s, n, k, hd, hn, hk => by
    have hc : isD c := hd c (by simp)
    have hlt : n < 10 ^ 17 := Nat.lt_of_lt_of_le hn (Nat.pow_le_pow_right (by decide) (by simp at hk; omega))
    unfold Go.Lib.parseUint10
    unfold isD at hc
    rw [if_pos hc, if_neg (by omega), if_neg (by omega)]
    have h2 : vstep n c < 10 ^ (k + 1) := by unfold vstep; rw [Nat.pow_succ]; omega
    exact parse_dig s (vstep n c) (k + 1) (fun x hx => hd x (by simp [hx])) h2 (by simp at hk; omega)
theorem atoi_dig (s : List UInt8) (h1 : s ≠ []) (h2 : s.length ≤ 16) (hd : Dig s) : strconv_Atoi 0 s = some (((val s : Nat) : Int), ()) := by
  unfold strconv_Atoi
  have hb : Nat.ble s.length 16777216 = true := Nat.ble_eq_true_of_le (by omega)
  have hv := val_le hd (k := 16) h2
  have e : Go.Lib.atoiAll s = .ok ((val s : Nat) : Int) := by
    cases s with
    | nil => exact absurd rfl h1
    | cons c l =>
      have hc : isD c := hd c (by simp)
      unfold isD at hc
      have hm : Go.Lib.parseMag (c :: l) = .ok (val (c :: l)) := by
        unfold Go.Lib.parseMag
        rw [if_neg (by simp)]
        exact parse_dig (c :: l) 0 0 hd (by decide) (by omega)
      unfold Go.Lib.atoiAll
      have hno : ¬ c.toNat = 43 := by omega
      have hno2 : ¬ c.toNat = 45 := by omega
      simp only [hno, hno2, or_self, if_false, hm, not_false_eq_true, true_and, false_and]
      rw [if_neg (show ¬ 9223372036854775808 ≤ val (c :: l) by omega)]
  rw [hb, e]; rfl
end Go.Ev.T1
