/- Numbers: the program's way. -/
import Derived.Test.YthcpfdomggaaaaaGreatDoorRvQ4
set_option linter.unusedSimpArgs false
set_option linter.unusedVariables false
set_option maxRecDepth 100000
namespace Go.Ev.T1
open Go Go.Proofs
theorem prefix_one (c : UInt8) (s : List UInt8) : Go.Lib.hasPrefix s [c] = decide (0 < s.length ∧ s.getD 0 0 = c) := by
  unfold Go.Lib.hasPrefix
  cases s with
  | nil => rfl
  | cons a l =>
    rw [Bool.eq_iff_iff, decide_eq_true_iff]
    simp [List.isPrefixOf]
    exact eq_comm
theorem implPre (s : List UInt8) : strings_CutPrefix 0 s [45] = some (restOf s, negOf s) := by
  unfold strings_CutPrefix Go.Lib.trimPrefix restOf
  rw [prefix_one]
  rfl
theorem implCut (t : List UInt8) (ht : t.length ≤ 1048576) : strings_Cut 0 t [46] = some (headOf t, tailOf t, decide (0 ≤ idx isDot t)) := by
  rw [cut_eq t ht]
  unfold headOf tailOf
  by_cases h : 0 ≤ idx isDot t
  · rw [if_pos h, if_pos h, if_pos h, decide_eq_true h]
  · rw [if_neg h, if_neg h, if_neg h, decide_eq_false h]
theorem head_len (t : List UInt8) : (headOf t).length ≤ t.length := by unfold headOf; split <;> simp; omega
theorem tail_len (t : List UInt8) : (tailOf t).length ≤ t.length := by unfold tailOf; split <;> simp
theorem sgn_mul (neg : Bool) (N : Nat) (hN : N ≤ 100000000000000000) : IntKind.i64.wrap ((if neg = true then (-1 : Int) else 1) * (N : Int)) = sgn neg N := by
  cases neg with
  | true => rw [if_pos rfl, wrap_eq (by omega) (by omega)]; unfold sgn; rw [if_pos rfl]; omega
  | false => rw [if_neg (by simp), wrap_eq (by omega) (by omega)]; unfold sgn; rw [if_neg (by simp)]; omega
theorem signPart {X : Type} (neg : Bool) (K : DValue × List UInt8 × Bool × Int × Int → Option X) (v : DValue) (tl : List UInt8) (d : Bool) (n : Int) :
    bnd (br neg (some (v, tl, d, n, -1)) (some (v, tl, d, n, 1))) K = K (v, tl, d, n, if neg = true then -1 else 1) := by cases neg <;> rfl
theorem val_zero_dig {tail : List UInt8} (hn : tail ≠ []) (h48 : ¬ tail.getD (tail.length - 1) 0 = 48) (hd : Dig tail) : val tail ≠ 0 := by
  have hl : 0 < tail.length := by cases tail <;> simp_all
  have hv := val_last tail hn hd
  have hc : isD (tail.getD (tail.length - 1) 0) := by rw [getD_lt (by omega)]; exact hd _ (List.getElem_mem _)
  have hne : (tail.getD (tail.length - 1) 0).toNat ≠ 48 := by
    intro h; apply h48; apply UInt8.toNat_inj.1; simpa using h
  unfold isD at hc
  omega
theorem implNumber (s : List UInt8) (hs : s.length ≤ 1048576) : F_impl_readNum s = some (numR (negOf s) (decide (0 ≤ idx isDot (restOf s))) (headOf (restOf s)) (tailOf (restOf s))) := by
  unfold F_impl_readNum
  have hr := rest_len s
  rw [implPre, bnd_some']
  dsimp only
  rw [implCut _ (by omega), bnd_some']
  dsimp only
  generalize negOf s = neg
  have hl1 := head_len (restOf s)
  have hl2 := tail_len (restOf s)
  have hdt : decide (0 ≤ idx isDot (restOf s)) = false → tailOf (restOf s) = [] := by
    intro h
    unfold tailOf
    rw [if_neg (by simpa using h)]
  generalize decide (0 ≤ idx isDot (restOf s)) = dot at hdt
  generalize headOf (restOf s) = head at hl1 ⊢
  generalize tailOf (restOf s) = tail at hl2 hdt ⊢
  rw [implDigits head (by omega), bnd_some', not_dec]
  unfold numR
  by_cases hd : head ≠ [] ∧ Dig head
  · have h1 : 1 ≤ head.length := by rcases head with _ | _ <;> simp_all
    rw [br_neg (fun h => h hd)]
    by_cases h16 : (head.length : Int) > 16
    · rw [br_pos h16, bnd_some', onSum_inr, if_pos (fun h => by have := h.2.1; omega)]; rfl
    · have hh : HeadP head := ⟨h1, by omega, hd.2⟩
      have hv := val_le hh.2.2 (k := 16) hh.2.1
      rw [br_neg h16, headKey, if_neg (show ¬ ¬ HeadP head from fun h => h hh)]
      by_cases h48 : 1 < head.length ∧ head.getD 0 0 = 48
      · rw [if_pos h48, if_pos h48, bnd_some', onSum_inr]; rfl
      · rw [if_neg h48, if_neg h48, bnd_some', onSum_inl]
        dsimp only
        have atoiH := atoi_dig head hd.1 (by omega) hd.2
        cases dot with
        | false =>
          have ht := hdt rfl
          subst ht
          rw [brF, bnd_some', onSum_inl, if_neg (by simp)]
          dsimp only
          rw [atoiH, bnd_some', beq_dec]
          dsimp only
          unfold numI
          have e1 : (br (decide (((val head : Nat) : Int) = 0)) (br neg (br (([] : List UInt8) == []) (some (Sum.inr (((0 : Int), (0 : Int), (0 : Int), ([] : List UInt8), ()), (5 : Int)))) (some (Sum.inl (ZV, neg, ([] : List UInt8), false, ((val head : Nat) : Int))))) (some (Sum.inl (ZV, neg, ([] : List UInt8), false, ((val head : Nat) : Int))))) (some (Sum.inl (ZV, neg, ([] : List UInt8), false, ((val head : Nat) : Int)))))
            = if neg = true ∧ val head = 0 then (some (Sum.inr (ZV, (5 : Int))) : Option ((DValue × Bool × List UInt8 × Bool × Int) ⊕ (DValue × Int))) else some (Sum.inl (ZV, neg, ([] : List UInt8), false, ((val head : Nat) : Int))) := by
            by_cases h0 : ((val head : Nat) : Int) = 0
            · rw [br_pos h0]
              cases neg with
              | true => rw [if_pos ⟨rfl, by omega⟩]; rfl
              | false => rw [if_neg (fun h => by cases h.1)]; rfl
            · rw [br_neg h0, if_neg (fun h => h0 (by omega))]
          refine (congrArg (fun m => bnd m _) e1).trans ?_
          by_cases hz : neg = true ∧ val head = 0
          · rw [if_pos hz, if_pos hz]; rfl
          · rw [if_neg hz, if_neg hz, bnd_some', onSum_inl]
            dsimp only
            rw [signPart, Bool.not_false, brT]
            dsimp only
            rw [sgn_mul neg (val head) (by omega), implInt, bnd_some']
            rfl
        | true =>
          rw [brT, if_pos rfl]
          unfold numT
          by_cases hn : tail = []
          · subst hn
            rw [show (!(([] : List UInt8) == [])) = false from rfl, brF, bnd_some', onSum_inl, if_neg (by simp), if_neg (fun h => h.1 rfl)]
            dsimp only
            rw [atoiH, bnd_some', beq_dec]
            dsimp only
            have e1 : (br (decide (((val head : Nat) : Int) = 0)) (br neg (br (([] : List UInt8) == []) (some (Sum.inr (((0 : Int), (0 : Int), (0 : Int), ([] : List UInt8), ()), (5 : Int)))) (some (Sum.inl (ZV, neg, ([] : List UInt8), true, ((val head : Nat) : Int))))) (some (Sum.inl (ZV, neg, ([] : List UInt8), true, ((val head : Nat) : Int))))) (some (Sum.inl (ZV, neg, ([] : List UInt8), true, ((val head : Nat) : Int)))))
              = if neg = true ∧ val head = 0 then (some (Sum.inr (ZV, (5 : Int))) : Option ((DValue × Bool × List UInt8 × Bool × Int) ⊕ (DValue × Int))) else some (Sum.inl (ZV, neg, ([] : List UInt8), true, ((val head : Nat) : Int))) := by
              by_cases h0 : ((val head : Nat) : Int) = 0
              · rw [br_pos h0]
                cases neg with
                | true => rw [if_pos ⟨rfl, by omega⟩]; rfl
                | false => rw [if_neg (fun h => by cases h.1)]; rfl
              · rw [br_neg h0, if_neg (fun h => h0 (by omega))]
            refine (congrArg (fun m => bnd m _) e1).trans ?_
            have hN0 : val head * 10 ^ ([] : List UInt8).length + val [] = val head := by
              rw [show val ([] : List UInt8) = 0 from rfl]; show val head * 1 + 0 = _; omega
            rw [hN0]
            by_cases hz : neg = true ∧ val head = 0
            · rw [if_pos hz, if_neg (show ¬ val head > 1000000000 by omega), if_pos hz]; rfl
            · rw [if_neg hz, bnd_some', onSum_inl]
              dsimp only
              rw [signPart, Bool.not_true, brF]
              dsimp only
              by_cases hb : ((val head : Nat) : Int) > 1000000000
              · rw [br_pos hb, if_pos (show val head > 1000000000 by omega)]; rfl
              · rw [br_neg hb, if_neg (show ¬ val head > 1000000000 by omega), if_neg hz, show (!(([] : List UInt8) == [])) = false from rfl, brF, bnd_some']
                dsimp only
                rw [show ((([] : List UInt8).length : Nat) : Int) = ((0 : Nat) : Int) from rfl, implPow 0 (by omega), bnd_some']
                have w2 : IntKind.i64.wrap (IntKind.i64.wrap (((val head : Nat) : Int) * ((10 ^ 0 : Nat) : Int)) + 0) = ((val head : Nat) : Int) := by
                  show IntKind.i64.wrap (IntKind.i64.wrap (((val head : Nat) : Int) * 1) + 0) = _
                  rw [wrap_eq (x := ((val head : Nat) : Int) * 1) (by omega) (by omega), wrap_eq (by omega) (by omega)]; omega
                rw [w2, sgn_mul neg (val head) (by omega), implDec _ 0 (by unfold sgn; split <;> omega) (fun h => absurd h (by omega)), bnd_some']
                rfl
          · have hl : 0 < tail.length := by cases tail <;> simp_all
            have hne : (!(tail == [])) = true := by simpa using hn
            rw [hne, brT, implDigits tail (by omega), bnd_some', not_dec]
            by_cases hdg : Dig tail
            · rw [br_neg (fun h => h ⟨hn, hdg⟩)]
              by_cases h6 : (tail.length : Int) > 6
              · rw [br_pos h6, bnd_some', onSum_inr, if_pos (by omega)]; rfl
              · rw [br_neg h6, wrap_len tail (by omega) hl, br_pos (by omega), br_pos (by omega), Int.toNat_natCast, beq48, beq_dec, if_neg (show ¬ 6 < tail.length by omega)]
                by_cases hz : tail.getD (tail.length - 1) 0 = 48
                · rw [br_pos hz, if_pos ⟨hn, .inl hz⟩, bnd_some', onSum_inr]; rfl
                · rw [br_neg hz, bnd_some', onSum_inl, if_neg (fun h => h.2.elim hz (fun h => h hdg))]
                  dsimp only
                  rw [atoiH, bnd_some', beq_dec]
                  dsimp only
                  have hvt := val_small (by omega) hdg
                  have hv0 := val_zero_dig hn hz hdg
                  have hte : (tail == []) = false := by simpa using hn
                  have e1 : (br (decide (((val head : Nat) : Int) = 0)) (br neg (br (tail == []) (some (Sum.inr (((0 : Int), (0 : Int), (0 : Int), ([] : List UInt8), ()), (5 : Int)))) (some (Sum.inl (ZV, neg, tail, true, ((val head : Nat) : Int))))) (some (Sum.inl (ZV, neg, tail, true, ((val head : Nat) : Int))))) (some (Sum.inl (ZV, neg, tail, true, ((val head : Nat) : Int)))))
                    = (some (Sum.inl (ZV, neg, tail, true, ((val head : Nat) : Int))) : Option ((DValue × Bool × List UInt8 × Bool × Int) ⊕ (DValue × Int))) := by
                    rw [hte, brF]
                    cases decide (((val head : Nat) : Int) = 0) <;> cases neg <;> rfl
                  refine (congrArg (fun m => bnd m _) e1).trans ?_
                  rw [bnd_some', onSum_inl]
                  dsimp only
                  rw [signPart, Bool.not_true, brF]
                  dsimp only
                  by_cases hb : ((val head : Nat) : Int) > 1000000000
                  · rw [br_pos hb, if_pos (show val head > 1000000000 by omega)]; rfl
                  · have hpb := prodBound head tail (by omega) (by omega)
                    have hlast := last_ne (head := head) (by omega) hn hz hdg neg
                    have hzz : ¬ (neg = true ∧ val head * 10 ^ tail.length + val tail = 0) := fun h => hv0 (by omega)
                    rw [br_neg hb, if_neg (show ¬ val head > 1000000000 by omega), if_neg hzz, hne, brT, atoi_dig tail hn (by omega) hdg, bnd_some', bnd_some']
                    dsimp only
                    rw [implPow tail.length (by omega), bnd_some']
                    have w2 : IntKind.i64.wrap (IntKind.i64.wrap (((val head : Nat) : Int) * ((10 ^ tail.length : Nat) : Int)) + ((val tail : Nat) : Int)) = ((val head * 10 ^ tail.length + val tail : Nat) : Int) := by
                      have e : ((val head : Nat) : Int) * ((10 ^ tail.length : Nat) : Int) = ((val head * 10 ^ tail.length : Nat) : Int) := (Int.natCast_mul _ _).symm
                      rw [e]
                      generalize val head * 10 ^ tail.length = q at hpb
                      rw [wrap_eq (x := ((q : Nat) : Int)) (by omega) (by omega), wrap_eq (by omega) (by omega)]; omega
                    rw [w2, sgn_mul neg _ (by omega)]
                    have hbig : val head * 10 ^ tail.length + val tail ≤ 2000000000000000 := by omega
                    generalize val head * 10 ^ tail.length + val tail = N at hlast hbig
                    rw [implDec _ tail.length (by unfold sgn; split <;> omega) (fun _ => hlast), bnd_some']
                    rfl
            · rw [show (decide ¬(tail ≠ [] ∧ Dig tail)) = true from decide_eq_true (fun h => hdg h.2), brT, bnd_some', onSum_inr]
              by_cases h6 : 6 < tail.length
              · rw [if_pos h6]; rfl
              · rw [if_neg h6, if_pos ⟨hn, .inr hdg⟩]; rfl
  · have hno : ¬ HeadP head := by
      rintro ⟨a1, a2, a3⟩
      exact hd ⟨fun h => by rw [h] at a1; exact absurd a1 (by decide), a3⟩
    rw [show (decide ¬(head ≠ [] ∧ Dig head)) = true from decide_eq_true hd, brT, bnd_some', onSum_inr, if_pos hno]; rfl
end Go.Ev.T1
