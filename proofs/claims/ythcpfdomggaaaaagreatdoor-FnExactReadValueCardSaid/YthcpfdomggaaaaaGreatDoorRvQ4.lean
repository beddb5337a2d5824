/- Numbers: both ways the same. -/
import Derived.Test.YthcpfdomggaaaaaGreatDoorRvQ3
set_option linter.unusedSimpArgs false
set_option linter.unusedVariables false
set_option maxRecDepth 100000
namespace Go.Ev.T1
open Go Go.Proofs
def ZV : DValue := ((0 : Int), (0 : Int), (0 : Int), ([] : List UInt8), ())
def HeadP (head : List UInt8) : Prop := 1 ≤ head.length ∧ head.length ≤ 16 ∧ Dig head
instance (l : List UInt8) : Decidable (HeadP l) := by unfold HeadP; infer_instance
def sgn (neg : Bool) (n : Int) : Int := if neg = true then -n else n
def inR (b : Int) (k : Int) (n : Int) (p : Int) : DValue × Int := if -b ≤ n ∧ n ≤ b then ((k, n, p, ([] : List UInt8), ()), 0) else (ZV, 3)
def numT (neg : Bool) (head tail : List UInt8) : DValue × Int :=
  if 6 < tail.length then (ZV, 5) else
  if tail ≠ [] ∧ (tail.getD (tail.length - 1) 0 = 48 ∨ ¬ Dig tail) then (ZV, 5) else
  if val head > 1000000000 then (ZV, 3) else
  if neg = true ∧ val head * 10 ^ tail.length + val tail = 0 then (ZV, 5) else
  inR 1000000000 3 (sgn neg ((val head * 10 ^ tail.length + val tail : Nat) : Int)) tail.length
def numI (neg : Bool) (head : List UInt8) : DValue × Int :=
  if neg = true ∧ val head = 0 then (ZV, 5) else inR 1000000000000000 2 (sgn neg ((val head : Nat) : Int)) 0
def numR (neg dot : Bool) (head tail : List UInt8) : DValue × Int :=
  if ¬ HeadP head then (ZV, 5) else
  if 1 < head.length ∧ head.getD 0 0 = 48 then (ZV, 5) else
  if dot = true then numT neg head tail else numI neg head
theorem val_last (s : List UInt8) (h : s ≠ []) (hd : Dig s) : val s % 10 = (s.getD (s.length - 1) 0).toNat - 48 := by
  have hl : 0 < s.length := by cases s <;> simp_all
  have e := val_take s (s.length - 1) (by omega)
  rw [show s.length - 1 + 1 = s.length by omega, List.take_length] at e
  have hc : isD (s.getD (s.length - 1) 0) := by rw [getD_lt (by omega)]; exact hd _ (List.getElem_mem _)
  rw [e]
  unfold vstep isD at *
  omega
theorem val_small {tail : List UInt8} (h6 : tail.length ≤ 6) (hd : Dig tail) : val tail < 1000000 := Nat.lt_of_lt_of_le (val_le hd h6) (by decide)
/-- with places: the last one isn't 0 -/
theorem last_ne {head tail : List UInt8} (h6 : tail.length ≤ 6) (hn : tail ≠ []) (h48 : ¬ tail.getD (tail.length - 1) 0 = 48) (hd : Dig tail) (neg : Bool) : ¬ (sgn neg ((val head * 10 ^ tail.length + val tail : Nat) : Int)).tmod 10 = 0 := by
  have hl : 0 < tail.length := by cases tail <;> simp_all
  have hv := val_last tail hn hd
  have hc : isD (tail.getD (tail.length - 1) 0) := by rw [getD_lt (by omega)]; exact hd _ (List.getElem_mem _)
  have hne : (tail.getD (tail.length - 1) 0).toNat ≠ 48 := by
    intro h; apply h48; apply UInt8.toNat_inj.1; simpa using h
  unfold isD at hc
  have hp : 10 ^ tail.length = 10 ^ (tail.length - 1) * 10 := by rw [← Nat.pow_succ]; congr 1; omega
  have h1 : (val head * 10 ^ tail.length + val tail) % 10 ≠ 0 := by
    rw [hp, ← Nat.mul_assoc, Nat.add_comm, Nat.add_mul_mod_self_right]
    omega
  generalize val head * 10 ^ tail.length + val tail = N at h1
  unfold sgn
  split
  · rw [Int.neg_tmod, Int.tmod_eq_emod_of_nonneg (by omega)]; omega
  · rw [Int.tmod_eq_emod_of_nonneg (by omega)]; omega
theorem beq48 (c : UInt8) : (((c.toNat : Nat) : Int) == 48) = (c == 48) := u8_eqN c 48 (by decide)
theorem wrap_len (l : List UInt8) (h : l.length ≤ 1048576) (h0 : 0 < l.length) : IntKind.i64.wrap ((l.length : Int) - 1) = ((l.length - 1 : Nat) : Int) := by
  rw [wrap_eq (by omega) (by omega)]; omega
theorem prodBound (head tail : List UInt8) (h6 : tail.length ≤ 6) (hv : val head ≤ 1000000000) : val head * 10 ^ tail.length ≤ 1000000000000000 := by
  have h1 : 10 ^ tail.length ≤ 10 ^ 6 := Nat.pow_le_pow_right (by decide) h6
  exact Nat.le_trans (Nat.mul_le_mul hv h1) (by decide)
theorem castProd (a b c : Nat) : ((a : Nat) : Int) * ((b : Nat) : Int) + ((c : Nat) : Int) = ((a * b + c : Nat) : Int) := by rw [Int.natCast_add, Int.natCast_mul]
/-- what stands behind the sign, ahead of the point, behind the point -/
def negOf (s : List UInt8) : Bool := decide (0 < s.length ∧ s.getD 0 0 = 45)
def restOf (s : List UInt8) : List UInt8 := if negOf s = true then s.drop 1 else s
def headOf (t : List UInt8) : List UInt8 := if 0 ≤ idx isDot t then t.take (idx isDot t).toNat else t
def tailOf (t : List UInt8) : List UInt8 := if 0 ≤ idx isDot t then t.drop ((idx isDot t).toNat + 1) else []
theorem rest_len (s : List UInt8) : (restOf s).length ≤ s.length := by unfold restOf; split <;> simp
theorem specPre (s : List UInt8) : bnd (br (decide ((↑(List.length s) : Int) > 0)) (br (decide (0 ≤ 0)) (br (decide (0 < (↑(List.length s) : Int))) (some (s, ((0 : Int), (0 : Int), (0 : Int), ([] : List UInt8), ()), (↑(List.getD s (Int.toNat 0) 0).toNat : Int) == 45)) (none)) (none)) (some (s, ((0 : Int), (0 : Int), (0 : Int), ([] : List UInt8), ()), false))) (fun y1 => (br (y1.2.2) (br (decide (0 ≤ 1)) (br (decide (1 ≤ (↑(List.length y1.1) : Int))) (some (List.drop (Int.toNat 1) y1.1, y1.2.1, y1.2.2)) (none)) (none)) (some (y1.1, y1.2.1, y1.2.2))))
    = some (restOf s, ZV, negOf s) := by
  by_cases h : (s.length : Int) > 0
  · rw [br_pos h, br_pos (by decide), br_pos h, bnd_some']
    dsimp only
    have e : (((s.getD (Int.toNat 0) 0).toNat : Int) == 45) = (s.getD 0 0 == 45) := u8_eqN (s.getD 0 0) 45 (by decide)
    rw [e]
    by_cases hc : s.getD 0 0 = 45
    · have hn : negOf s = true := decide_eq_true ⟨by omega, hc⟩
      have hb : (s.getD 0 0 == 45) = true := by rw [hc]; rfl
      rw [hb, brT, br_pos (by decide), br_pos (by omega)]
      unfold restOf
      rw [if_pos hn, hn]; rfl
    · have hn : negOf s = false := decide_eq_false fun h => hc h.2
      have hb : (s.getD 0 0 == 45) = false := by simpa using hc
      rw [hb, brF]
      unfold restOf
      rw [hn, if_neg (by simp)]; rfl
  · rw [br_neg h, bnd_some']
    have hn : negOf s = false := decide_eq_false fun h' => h (by omega)
    dsimp only
    rw [brF]
    unfold restOf
    rw [hn, if_neg (by simp)]; rfl
theorem headKey (head : List UInt8) {X : Type} (Y W : Option X) : (br (decide ((↑(List.length head) : Int) > 1)) (br (decide (0 ≤ 0)) (br (decide (0 < (↑(List.length head) : Int))) (br ((↑(List.getD head (Int.toNat 0) 0).toNat : Int) == 48) Y W) none) none) W) = if 1 < head.length ∧ head.getD 0 0 = 48 then Y else W := by
  by_cases h1 : (head.length : Int) > 1
  · rw [br_pos h1, br_pos (by decide), br_pos (by omega)]
    have e : (((head.getD (Int.toNat 0) 0).toNat : Int) == 48) = (head.getD 0 0 == 48) := beq48 _
    rw [e, beq_dec]
    by_cases h2 : head.getD 0 0 = 48
    · rw [br_pos h2, if_pos ⟨by omega, h2⟩]
    · rw [br_neg h2, if_neg (fun h => h2 h.2)]
  · rw [br_neg h1, if_neg (fun h => h1 (by omega))]
theorem specCount_ok {s : List UInt8} (h : HeadP s) : F_spec_l01Count s = some (((val s : Nat) : Int), true) := by rw [specCount, if_pos (show 1 ≤ s.length ∧ s.length ≤ 16 ∧ Dig s from h)]
theorem specCount_no {s : List UInt8} (h : ¬ HeadP s) : F_spec_l01Count s = some (0, false) := by rw [specCount, if_neg (show ¬ (1 ≤ s.length ∧ s.length ≤ 16 ∧ Dig s) from h)]
theorem specFin (N : Nat) (hN : N ≤ 100000000000000000) (neg : Bool) (p kind b : Int) (hok : F_spec_ValueOK (kind, sgn neg N, p, ([] : List UInt8), ()) = some (decide (-b ≤ sgn neg N ∧ sgn neg N ≤ b))) :
    bnd (br neg (br ((N : Int) == 0) (some (Sum.inr (((0 : Int), (0 : Int), (0 : Int), ([] : List UInt8), ()), (5 : Int)))) (some (Sum.inl (ZV, kind, IntKind.i64.wrap (0 - (N : Int)), p, ([] : List UInt8), ())))) (some (Sum.inl (ZV, kind, (N : Int), p, ([] : List UInt8), ())))) (fun y10 => onSum y10 (fun y11 => bnd (F_spec_ValueOK y11.2) (fun y12 => br (!y12) (some (((0 : Int), (0 : Int), (0 : Int), ([] : List UInt8), ()), 3)) (some (y11.2, 0)))) (fun y11 => some y11))
    = some (if neg = true ∧ N = 0 then (ZV, 5) else inR b kind (sgn neg N) p) := by
  have fin : ∀ n : Int, n = sgn neg N → (bnd (F_spec_ValueOK (kind, n, p, ([] : List UInt8), ())) (fun y12 => br (!y12) (some (((0 : Int), (0 : Int), (0 : Int), ([] : List UInt8), ()), 3)) (some ((kind, n, p, ([] : List UInt8), ()), 0)))) = some (inR b kind (sgn neg N) p) := by
    rintro n rfl
    rw [hok, bnd_some', not_dec]
    unfold inR
    by_cases hc : -b ≤ sgn neg N ∧ sgn neg N ≤ b
    · rw [br_neg (fun h => h hc), if_pos hc]
    · rw [br_pos hc, if_neg hc]; rfl
  cases neg with
  | true =>
    rw [brT, beq_dec]
    by_cases h0 : (N : Int) = 0
    · rw [br_pos h0, bnd_some', onSum_inr, if_pos ⟨rfl, by omega⟩]; rfl
    · rw [br_neg h0, bnd_some', onSum_inl, if_neg (fun h => h0 (by omega))]
      refine fin _ ?_
      rw [wrap_eq (by omega) (by omega)]; unfold sgn; rw [if_pos rfl]; omega
  | false =>
    rw [brF, bnd_some', onSum_inl, if_neg (fun h => by cases h.1)]
    exact fin _ rfl
theorem specNumber (s : List UInt8) (hs : s.length ≤ 1048576) : F_spec_l01ReadNumber s = some (numR (negOf s) (decide (0 ≤ idx isDot (restOf s))) (headOf (restOf s)) (tailOf (restOf s))) := by
  unfold F_spec_l01ReadNumber
  rw [assoc_bnd, specPre, bnd_some']
  dsimp only
  have hr := rest_len s
  generalize restOf s = t at hr ⊢
  generalize negOf s = neg
  rw [specDot t (by omega), bnd_some']
  dsimp only
  have hi := idx_lt (p := isDot) (xs := t)
  have hge := idx_ge (p := isDot) (xs := t)
  unfold headOf tailOf
  generalize idx isDot t = i at hi hge ⊢
  by_cases hd : 0 ≤ i
  · have w : IntKind.i64.wrap (i + 1) = i + 1 := wrap_eq (by omega) (by omega)
    have wn : (i + 1).toNat = i.toNat + 1 := by omega
    rw [w, br_pos (show i ≥ 0 from hd), br_pos hd, br_pos (by omega), br_pos (by omega), br_pos (by omega), bnd_some', wn, if_pos hd, if_pos hd, decide_eq_true hd]
    dsimp only
    have hl1 : (t.take i.toNat).length ≤ 1048576 := by simp; omega
    have hl2 : (t.drop (i.toNat + 1)).length ≤ 1048576 := by simp; omega
    generalize t.take i.toNat = head at hl1 ⊢
    generalize t.drop (i.toNat + 1) = tail at hl2 ⊢
    unfold numR
    by_cases hh : HeadP head
    · have hv := val_le hh.2.2 (k := 16) hh.2.1
      rw [specCount_ok hh, bnd_some', if_neg (show ¬ ¬ HeadP head from fun h => h hh)]
      dsimp only
      rw [Bool.not_true, brF]
      rw [headKey]
      by_cases h48 : 1 < head.length ∧ head.getD 0 0 = 48
      · rw [if_pos h48, if_pos h48, bnd_some', onSum_inr]; rfl
      · rw [if_neg h48, if_neg h48, bnd_some', onSum_inl, if_pos rfl]
        dsimp only
        rw [br_pos (show i ≥ 0 from hd)]
        unfold numT
        by_cases h6 : (tail.length : Int) > 6
        · rw [br_pos h6, if_pos (by omega), bnd_some', onSum_inr, bnd_some', onSum_inr]; rfl
        · rw [br_neg h6, if_neg (by omega)]
          by_cases hn : tail = []
          · subst hn
            rw [br_neg (by simp), bnd_some', onSum_inl]
            dsimp only
            rw [br_neg (by simp), bnd_some', onSum_inl, if_neg (fun h => h.1 rfl)]
            dsimp only
            by_cases hb : ((val head : Nat) : Int) > 1000000000
            · rw [br_pos hb, bnd_some', onSum_inr, if_pos (by omega)]; rfl
            · rw [br_neg hb, if_neg (by omega)]
              rw [show ((([] : List UInt8).length : Nat) : Int) = ((0 : Nat) : Int) from rfl, specPow 0 (by omega), bnd_some', bnd_some', onSum_inl]
              have w2 : IntKind.i64.wrap (IntKind.i64.wrap (((val head : Nat) : Int) * ((10 ^ 0 : Nat) : Int)) + 0) = ((val head * 10 ^ ([] : List UInt8).length + val [] : Nat) : Int) := by
                rw [show val ([] : List UInt8) = 0 from rfl]
                show IntKind.i64.wrap (IntKind.i64.wrap (((val head : Nat) : Int) * 1) + 0) = ((val head * 1 + 0 : Nat) : Int)
                rw [wrap_eq (x := ((val head : Nat) : Int) * 1) (by omega) (by omega), wrap_eq (by omega) (by omega)]; omega
              rw [w2]
              have hN : val head * 10 ^ ([] : List UInt8).length + val [] ≤ 2000000000000000 := by
                show val head * 1 + 0 ≤ _; omega
              generalize val head * 10 ^ ([] : List UInt8).length + val [] = N at hN
              exact specFin N (by omega) neg ((0 : Nat) : Int) 3 1000000000 (okDec _ 0 (by omega) (fun h => absurd h (by omega)))
          · have hl : 0 < tail.length := by cases tail <;> simp_all
            rw [br_pos (by omega), wrap_len tail hl2 hl, br_pos (by omega), br_pos (by omega), Int.toNat_natCast, beq48, beq_dec]
            by_cases hz : tail.getD (tail.length - 1) 0 = 48
            · rw [br_pos hz, if_pos ⟨hn, .inl hz⟩, bnd_some', onSum_inr, bnd_some', onSum_inr]; rfl
            · rw [br_neg hz, bnd_some', onSum_inl]
              dsimp only
              rw [br_pos (show (tail.length : Int) > 0 by omega)]
              by_cases hdt : Dig tail
              · have hvt := val_small (by omega) hdt
                rw [specCount_ok (show HeadP tail from ⟨by omega, by omega, hdt⟩), bnd_some']
                dsimp only
                rw [Bool.not_true, brF, bnd_some', onSum_inl, if_neg (fun h => h.2.elim hz (fun h => h hdt))]
                dsimp only
                by_cases hb : ((val head : Nat) : Int) > 1000000000
                · rw [br_pos hb, bnd_some', onSum_inr, if_pos (by omega)]; rfl
                · rw [br_neg hb, if_neg (by omega), specPow tail.length (by omega), bnd_some', bnd_some', onSum_inl]
                  have hpb := prodBound head tail (by omega) (by omega)
                  have hlast := last_ne (head := head) (by omega) hn hz hdt
                  have w2 : IntKind.i64.wrap (IntKind.i64.wrap (((val head : Nat) : Int) * ((10 ^ tail.length : Nat) : Int)) + ((val tail : Nat) : Int)) = ((val head * 10 ^ tail.length + val tail : Nat) : Int) := by
                    have e : ((val head : Nat) : Int) * ((10 ^ tail.length : Nat) : Int) = ((val head * 10 ^ tail.length : Nat) : Int) := (Int.natCast_mul _ _).symm
                    rw [e]
                    generalize val head * 10 ^ tail.length = q at hpb
                    rw [wrap_eq (x := ((q : Nat) : Int)) (by omega) (by omega), wrap_eq (by omega) (by omega)]; omega
                  rw [w2]
                  have hN : val head * 10 ^ tail.length + val tail ≤ 2000000000000000 := by omega
                  generalize val head * 10 ^ tail.length + val tail = N at hN hlast
                  exact specFin N (by omega) neg tail.length 3 1000000000 (okDec _ tail.length (by omega) (fun _ => hlast neg))
              · rw [specCount_no (fun h => hdt h.2.2), bnd_some']
                dsimp only
                rw [Bool.not_false, brT, bnd_some', onSum_inr, bnd_some', onSum_inr, if_pos ⟨hn, .inr hdt⟩]; rfl
    · rw [specCount_no hh, bnd_some', if_pos hh]
      dsimp only
      rw [Bool.not_false, brT, bnd_some', onSum_inr]; rfl
  · rw [br_neg (show ¬ i ≥ 0 from hd), bnd_some', if_neg hd, if_neg hd, decide_eq_false hd]
    dsimp only
    unfold numR
    by_cases hh : HeadP t
    · have hv := val_le hh.2.2 (k := 16) hh.2.1
      rw [specCount_ok hh, bnd_some', if_neg (show ¬ ¬ HeadP t from fun h => h hh)]
      dsimp only
      rw [Bool.not_true, brF, headKey]
      by_cases h48 : 1 < t.length ∧ t.getD 0 0 = 48
      · rw [if_pos h48, if_pos h48, bnd_some', onSum_inr]; rfl
      · rw [if_neg h48, if_neg h48, bnd_some', onSum_inl, if_neg (by simp)]
        dsimp only
        rw [br_neg (show ¬ i ≥ 0 from hd), bnd_some', onSum_inl]
        unfold numI
        exact specFin (val t) (by omega) neg 0 2 1000000000000000 (okInt _)
    · rw [specCount_no hh, bnd_some', if_pos hh]
      dsimp only
      rw [Bool.not_false, brT, bnd_some', onSum_inr]; rfl
end Go.Ev.T1
