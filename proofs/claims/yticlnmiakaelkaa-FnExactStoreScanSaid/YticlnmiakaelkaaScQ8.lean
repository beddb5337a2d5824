/- StoreScan: both ways the same. -/
import Derived.Test.YticlnmiakaelkaaScQ8a
set_option linter.unusedSimpArgs false
set_option linter.unusedVariables false
namespace Go.Ev.T1
open Go Go.Proofs
section
variable (fr to : List UInt8) (at_ : DTime) (most : Int)
/-- the keys asked for -/
def Sel (k : List UInt8) : Prop := ¬ Op.bytesLess k fr = true ∧ (to = [] ∨ Op.bytesLess k to = true)
instance (k : List UInt8) : Decidable (Sel fr to k) := inferInstanceAs (Decidable (_ ∧ _))
def sput (out : List DVersion) (v : DVersion) : List DVersion := if Sel fr to v.1 ∧ (out.length : Int) < most then out ++ [v] else out
def put1 (out : List DVersion) (v : DVersion) : List DVersion := if v.2.2.1 = true then out else if (out.length : Int) < most then out ++ [v] else out
def scanL : Option (List UInt8) → List DVersion → List DVersion → List DVersion
  | _, out, [] => out
  | seen, out, v :: l => if seen = some v.1 ∨ Later v.2.1 at_ then scanL seen out l else scanL (some v.1) (if v.2.2.1 = true then out else sput fr to most out v) l
def addFirst (out : List DVersion) (k : List UInt8) : List DVersion → List DVersion
  | [] => out
  | v :: l => if v.1 = k then (if Later v.2.1 at_ then addFirst out k l else put1 most out v) else out
def scanI : Option (List UInt8) → List DVersion → List DVersion → List DVersion
  | _, out, [] => out
  | p, out, v :: l => if ¬ Sel fr to v.1 ∨ p = some v.1 then scanI (some v.1) out l else scanI (some v.1) (addFirst at_ most out v.1 (v :: l)) l
theorem foldl_scan : ∀ (l : List DVersion) (seen : Option (List UInt8)) (out : List DVersion), (liveR at_ seen l).foldl (sput fr to most) out = scanL fr to at_ most seen out l
  | [], _, _ => by simp [liveR, scanL]
  | v :: l, seen, out => by
    unfold liveR scanL
    by_cases h : seen = some v.1 ∨ Later v.2.1 at_
    · rw [if_pos h, if_pos h]; exact foldl_scan l seen out
    · rw [if_neg h, if_neg h, List.foldl_append, foldl_scan l]
      by_cases d : v.2.2.1 = true
      · rw [if_pos d, if_pos d]; rfl
      · rw [if_neg d, if_neg d]; rfl
theorem key_apart {w v : DVersion} {l : List DVersion} (h : Strict (w :: v :: l)) (hk : ¬ v.1 = w.1) : ∀ x ∈ v :: l, ¬ w.1 = x.1 := by
  have h1 : Ahead w v := (List.pairwise_cons.1 h).1 v (by simp)
  have h2 : Op.bytesLess w.1 v.1 = true := by
    rcases h1 with h1 | h1
    · exact h1
    · exact absurd h1.1.symm hk
  intro x hx e
  rcases List.mem_cons.1 hx with rfl | hx
  · exact hk e.symm
  · have h3 : Ahead v x := (List.pairwise_cons.1 (List.pairwise_cons.1 h).2).1 x hx
    have h4 : Op.bytesLess w.1 x.1 = true := by
      rcases h3 with h3 | h3
      · exact bl_trans _ _ _ h2 h3
      · rw [← h3.1]; exact h2
    rw [e] at h4; exact bl_irr _ h4
theorem scan_same : ∀ (l : List DVersion) (out : List DVersion),
    (∀ p seen, Strict l → (∀ x ∈ l, p ≠ some x.1) → (∀ x ∈ l, seen ≠ some x.1) → scanL fr to at_ most seen out l = scanI fr to at_ most p out l) ∧
    (∀ w, Strict (w :: l) → scanL fr to at_ most (some w.1) out l = scanI fr to at_ most (some w.1) out l) ∧
    (∀ w seen, Strict (w :: l) → seen ≠ some w.1 → (∀ x ∈ l, seen ≠ some x.1) → scanL fr to at_ most seen out l = scanI fr to at_ most (some w.1) (if Sel fr to w.1 then addFirst at_ most out w.1 l else out) l)
  | [], out => by
    refine ⟨fun _ _ _ _ _ => rfl, fun _ _ => rfl, fun w seen _ _ _ => ?_⟩
    split <;> rfl
  | v :: l, out => by
    have c1 : ∀ p seen, Strict (v :: l) → (∀ x ∈ v :: l, p ≠ some x.1) → (∀ x ∈ v :: l, seen ≠ some x.1) → scanL fr to at_ most seen out (v :: l) = scanI fr to at_ most p out (v :: l) := by
      intro p seen hs hp hn
      have hp1 := hp v (by simp)
      have hn1 := hn v (by simp)
      unfold scanL scanI
      by_cases hl : Later v.2.1 at_
      · rw [if_pos (.inr hl)]
        have := (scan_same l out).2.2 v seen hs hn1 fun x hx => hn x (by simp [hx])
        rw [this]
        by_cases hsel : Sel fr to v.1
        · rw [if_pos hsel, if_neg (show ¬ (¬ Sel fr to v.1 ∨ p = some v.1) from fun h => h.elim (fun h => h hsel) hp1)]
          conv => rhs; unfold addFirst
          rw [if_pos rfl, if_pos hl]
        · rw [if_neg hsel, if_pos (show ¬ Sel fr to v.1 ∨ p = some v.1 from .inl hsel)]
      · rw [if_neg (show ¬ (seen = some v.1 ∨ Later v.2.1 at_) from fun h => h.elim hn1 hl)]
        have := (scan_same l (if v.2.2.1 = true then out else sput fr to most out v)).2.1 v hs
        rw [this]
        by_cases hsel : Sel fr to v.1
        · conv => rhs; rw [if_neg (show ¬ (¬ Sel fr to v.1 ∨ p = some v.1) from fun h => h.elim (fun h => h hsel) hp1)]
          conv => rhs; unfold addFirst
          rw [if_pos (rfl : v.1 = v.1), if_neg hl]
          unfold put1 sput
          simp only [hsel, true_and]
        · conv => rhs; rw [if_pos (show ¬ Sel fr to v.1 ∨ p = some v.1 from .inl hsel)]
          unfold sput
          simp only [hsel, false_and, if_false, ite_self]
    refine ⟨c1, fun w hs => ?_, fun w seen hs hw hn => ?_⟩
    · by_cases hk : v.1 = w.1
      · unfold scanL scanI
        rw [if_pos (.inl (by rw [hk])), if_pos (.inr (by rw [hk]))]
        have := (scan_same l out).2.1 v (List.pairwise_cons.1 hs).2
        rw [hk] at this ⊢
        exact this
      · have ha := key_apart hs hk
        have hne : ∀ x ∈ v :: l, (some w.1 : Option (List UInt8)) ≠ some x.1 := fun x hx e => ha x hx (Option.some.inj e)
        exact c1 (some w.1) (some w.1) (List.pairwise_cons.1 hs).2 hne hne
    · by_cases hk : v.1 = w.1
      · unfold scanI
        rw [if_pos (show _ ∨ some w.1 = some v.1 from .inr (by rw [hk]))]
        unfold scanL
        by_cases hl : Later v.2.1 at_
        · rw [if_pos (.inr hl)]
          have := (scan_same l out).2.2 v seen (List.pairwise_cons.1 hs).2 (by rw [hk]; exact hw) fun x hx => hn x (by simp [hx])
          rw [this, hk]
          congr 1
          conv => rhs; unfold addFirst
          rw [if_pos hk, if_pos hl]
        · rw [if_neg (show ¬ (seen = some v.1 ∨ Later v.2.1 at_) from fun h => h.elim (hn v (by simp)) hl)]
          have := (scan_same l (if v.2.2.1 = true then out else sput fr to most out v)).2.1 v (List.pairwise_cons.1 hs).2
          rw [this]
          congr 1
          unfold addFirst
          rw [if_pos hk, if_neg hl, ← hk]
          unfold put1 sput
          by_cases hsel : Sel fr to v.1
          · simp only [hsel, true_and, if_true]
          · simp only [hsel, false_and, if_false, ite_self]
      · have ha := key_apart hs hk
        have hne : ∀ x ∈ v :: l, (some w.1 : Option (List UInt8)) ≠ some x.1 := fun x hx e => ha x hx (Option.some.inj e)
        have := c1 (some w.1) seen (List.pairwise_cons.1 hs).2 hne hn
        rw [this]
        congr 1
        unfold addFirst
        rw [if_neg hk, ite_self]
end
end Go.Ev.T1
