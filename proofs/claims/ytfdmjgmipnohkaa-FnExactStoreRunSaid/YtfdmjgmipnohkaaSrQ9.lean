import Derived.Test.YtfdmjgmipnohkaaSrQ8
set_option linter.unusedSimpArgs false
set_option linter.unusedVariables false
namespace Go.Ev.T1
open Go Go.Proofs
def tooLate (at_ : DTime) (v : y0q) : Bool := decide (Later v.2.1 at_)
def lstep (at_ : DTime) (st : List UInt8 × Bool × List y0q) (v : y0q) : List UInt8 × Bool × List y0q :=
 if (st.2.1 = true ∧ v.1 = st.1) ∨ Later v.2.1 at_ then st else (v.1, true, if v.2.2.1 = true then st.2.2 else st.2.2 ++ [v])
def liveL (at_ : DTime) (l : List y0q) : List y0q := (l.foldl (lstep at_) ([], false, [])).2.2
def liveR (at_ : DTime) : Option (List UInt8) → List y0q → List y0q
 | _, [] => []
 | seen, v :: l => if seen = some v.1 ∨ Later v.2.1 at_ then liveR at_ seen l else (if v.2.2.1 = true then [] else [v]) ++ liveR at_ (some v.1) l
theorem foldl_live (at_ : DTime) : ∀ (l : List y0q) (seen : List UInt8) (sm : Bool) (out : List y0q),
  (l.foldl (lstep at_) (seen, sm, out)).2.2 = out ++ liveR at_ (if sm = true then some seen else none) l
 | [], _, _, _ => by simp [liveR]
 | v :: l, seen, sm, out => by
  rw [List.foldl_cons]
  unfold lstep liveR
  by_cases h : (sm = true ∧ v.1 = seen) ∨ Later v.2.1 at_
  ·have h' : (if sm = true then some seen else none) = some v.1 ∨ Later v.2.1 at_ := by
    rcases h with ⟨h1, h2⟩ | h
    ·left; rw [if_pos h1, h2]
    ·exact .inr h
   rw [if_pos h, if_pos h']
   exact foldl_live at_ l seen sm out
  ·have h' : ¬ ((if sm = true then some seen else none) = some v.1 ∨ Later v.2.1 at_) := by
    rintro (k | k)
    ·apply h; left
     cases sm with
     | false => simp at k
     | true => simp at k; exact ⟨rfl, k.symm⟩
    ·exact h (.inr k)
   rw [if_neg h, if_neg h']
   have := foldl_live at_ l v.1 true (if v.2.2.1 = true then out else out ++ [v])
   refine this.trans ?_
   rw [if_pos rfl]
   split <;> simp
theorem liveL_eq (at_ : DTime) (l : List y0q) : liveL at_ l = liveR at_ none l := by
 have := foldl_live at_ l [] false []
 simpa [liveL] using this
theorem live_len (at_ : DTime) : ∀ (l : List y0q) (seen : Option (List UInt8)), (liveR at_ seen l).length ≤ l.length
 | [], _ => by simp [liveR]
 | v :: l, seen => by
  unfold liveR
  split
  ·have := live_len at_ l seen; simp only [List.length_cons]; omega
  ·have := live_len at_ l (some v.1)
   rw [List.length_append, List.length_cons]
   split <;> simp <;> omega
theorem live_fold_len (at_ : DTime) (l : List y0q) : ((l.foldl (lstep at_) ([], false, [])).2.2).length ≤ l.length := by
 have := foldl_live at_ l [] false []
 rw [this]
 simpa using live_len at_ l none
theorem live_mem (at_ : DTime) : ∀ (l : List y0q) (seen : Option (List UInt8)) (v : y0q), v ∈ liveR at_ seen l → v ∈ l
 | [], _, _, h => by simp [liveR] at h
 | w :: l, seen, v, h => by
  unfold liveR at h
  split at h
  ·exact List.mem_cons_of_mem _ (live_mem at_ l seen v h)
  ·rw [List.mem_append] at h
   rcases h with h | h
   ·split at h
    ·simp at h
    ·simp at h; simp [h]
   ·exact List.mem_cons_of_mem _ (live_mem at_ l _ v h)
def firstOf (k : List UInt8) : List y0q → Option y0q
 | [] => none
 | v :: l => if v.1 = k then some v else firstOf k l
def toldR (k : List UInt8) (at_ : DTime) : List y0q → Option y0q
 | [] => none
 | v :: l => if v.1 = k ∧ ¬ Later v.2.1 at_ then (if v.2.2.1 = true then none else some v) else toldR k at_ l
theorem first_none (k : List UInt8) : ∀ l : List y0q, (∀ v ∈ l, v.1 ≠ k) → firstOf k l = none
 | [], _ => rfl
 | v :: l, h => by
  unfold firstOf
  rw [if_neg (h v (by simp)), first_none k l fun x hx => h x (by simp [hx])]
theorem first_append (k : List UInt8) (a b : List y0q) (h : ∀ v ∈ a, v.1 ≠ k) : firstOf k (a ++ b) = firstOf k b := by
 induction a with
 | nil => rfl
 | cons v a ih =>
  rw [List.cons_append, firstOf, if_neg (h v (by simp)), ih fun x hx => h x (by simp [hx])]
theorem live_seen (at_ : DTime) (k : List UInt8) : ∀ l : List y0q, (l.Pairwise fun a b => ¬ (a.1 ≠ k ∧ b.1 = k)) → firstOf k (liveR at_ (some k) l) = none
 | [], _ => rfl
 | v :: l, h => by
  rw [List.pairwise_cons] at h
  unfold liveR
  by_cases hv : v.1 = k
  ·rw [if_pos (.inl (by rw [hv]))]; exact live_seen at_ k l h.2
  ·have hn : ∀ x ∈ l, x.1 ≠ k := fun x hx hk => h.1 x hx ⟨hv, hk⟩
   apply first_none
   intro x hx hk
   split at hx
   ·exact hn x (live_mem at_ l _ x hx) hk
   ·rw [List.mem_append] at hx
    rcases hx with hx | hx
    ·split at hx
     ·simp at hx
     ·simp at hx; rw [hx] at hk; exact hv hk
    ·exact hn x (live_mem at_ l _ x hx) hk
theorem live_told (at_ : DTime) (k : List UInt8) : ∀ (l : List y0q) (seen : Option (List UInt8)), Strict l → seen ≠ some k → firstOf k (liveR at_ seen l) = toldR k at_ l
 | [], _, _, _ => rfl
 | v :: l, seen, h, hs => by
  have h2 : Strict l := (List.pairwise_cons.1 h).2
  have h1 : ∀ x ∈ l, Ahead v x := (List.pairwise_cons.1 h).1
  unfold liveR toldR
  by_cases hv : v.1 = k
  ·by_cases hl : Later v.2.1 at_
   ·rw [if_pos (.inr hl), if_neg (show ¬ (v.1 = k ∧ ¬ Later v.2.1 at_) from fun h => h.2 hl)]
    exact live_told at_ k l seen h2 hs
   ·rw [if_neg (show ¬ (seen = some v.1 ∨ Later v.2.1 at_) by rintro (h | h); { rw [hv] at h; exact hs h }; { exact hl h }), if_pos (show v.1 = k ∧ ¬ Later v.2.1 at_ from ⟨hv, hl⟩)]
    by_cases hd : v.2.2.1 = true
    ·rw [if_pos hd, if_pos hd, List.nil_append, hv]
     refine live_seen at_ k l ?_
     refine List.Pairwise.imp_of_mem (fun {a b} ha hb (hab : Ahead a b) hk => ?_) h2
     have g1 := h1 a ha
     rcases g1 with g1 | g1
     ·rcases hab with g2 | g2
      ·rw [hk.2] at g2; rw [hv] at g1; exact bl_irr _ (bl_trans _ _ _ g1 g2)
      ·exact hk.1 (g2.1.trans hk.2)
     ·exact hk.1 (g1.1.symm.trans hv)
    ·rw [if_neg hd, if_neg hd, List.cons_append, firstOf, if_pos hv]
  ·rw [if_neg (show ¬ (v.1 = k ∧ ¬ Later v.2.1 at_) from fun h => hv h.1)]
   split
   ·exact live_told at_ k l seen h2 hs
   ·rw [first_append]
    ·exact live_told at_ k l _ h2 (by intro h; exact hv (Option.some.inj h))
    ·intro x hx hk
     split at hx
     ·simp at hx
     ·simp at hx; rw [hx] at hk; exact hv hk
theorem lstep_skip (at_ : DTime) (st : List UInt8 × Bool × List y0q) (v : y0q) (h : (st.2.1 = true ∧ v.1 = st.1) ∨ Later v.2.1 at_) : lstep at_ st v = st := if_pos h
theorem lstep_dead (at_ : DTime) (st : List UInt8 × Bool × List y0q) (v : y0q) (h : ¬ ((st.2.1 = true ∧ v.1 = st.1) ∨ Later v.2.1 at_)) (d : v.2.2.1 = true) : lstep at_ st v = (v.1, true, st.2.2) := by
 unfold lstep; rw [if_neg h, if_pos d]
theorem lstep_live (at_ : DTime) (st : List UInt8 × Bool × List y0q) (v : y0q) (h : ¬ ((st.2.1 = true ∧ v.1 = st.1) ∨ Later v.2.1 at_)) (d : ¬ v.2.2.1 = true) : lstep at_ st v = (v.1, true, st.2.2 ++ [v]) := by
 unfold lstep; rw [if_neg h, if_neg d]
def stL (at_ : DTime) (l : List y0q) (i : Nat) : List UInt8 × Bool × List y0q := (l.take i).foldl (lstep at_) ([], false, [])
theorem stL_succ (at_ : DTime) (l : List y0q) (i : Nat) (hi : i < l.length) : stL at_ l (i + 1) = lstep at_ (stL at_ l i) (l.getD i y1q) := by
 unfold stL
 rw [List.take_succ_eq_append_getElem hi, List.foldl_append, y33q hi]; rfl
theorem stL_len (at_ : DTime) (l : List y0q) (i : Nat) : (stL at_ l i).2.2.length ≤ l.length := by
 have := live_fold_len at_ (l.take i)
 have h2 : (l.take i).length ≤ l.length := by simp; omega
 unfold stL
 omega
theorem specLiveL (at_ : DTime) (l : List y0q) (hl : l.length ≤ 1048576) : F_u20f_l0 at_ l [] [] false 0 = some (liveL at_ l) := by
 unfold F_u20f_l0
 have := y38q (B := B_u20f_l0) (fun i => (at_, l, (stL at_ l i).2.2, (stL at_ l i).1, (stL at_ l i).2.1, ((i : Nat) : Int))) l.length (some (liveL at_ l)) (fun i C hi => ?_) (fun C => ?_) (((l.length : Nat) : Int).toNat + 1) 0 (Nat.zero_le _) (by simp)
 ·exact this
 ·have hn := stL_len at_ l i
  rw [stL_succ at_ l i hi]
  unfold B_u20f_l0
  generalize stL at_ l i = st at hn ⊢
  obtain ⟨sn, sm, out⟩ := st
  generalize hv : l.getD i y1q = v
  simp (disch := omega) only [y9q, Int.toNat_natCast, hv, specTime, y57q]
  have hn : out.length ≤ l.length := hn
  have tl := @y121q v.2.1 at_
  have hcap : out.length + [v].length ≤ capN := by simp; unfold capN; omega
  rw [y2q (show ((i : Nat) : Int) < l.length by omega)]
  cases sm with
  | true =>
   rw [brT, y2q (by omega), y2q (by omega)]
   by_cases c1 : v.1 = sn
   ·rw [y2q c1, lstep_skip _ _ _ (.inl ⟨rfl, c1⟩)]
   ·rw [y11q c1, y2q (by omega), y2q (by omega)]
    show br (decide (tcmp v.2.1 at_ > 0)) _ _ = _
    by_cases c2 : Later v.2.1 at_
    ·rw [y2q (tl.2 c2), lstep_skip _ _ _ (.inr c2)]
    ·have hno : ¬ (((sn, true, out).2.1 = true ∧ v.1 = (sn, true, out).1) ∨ Later v.2.1 at_) := by
      rintro (⟨_, h⟩ | h)
      ·exact c1 h
      ·exact c2 h
     rw [y11q (fun h => c2 (tl.1 h)), y2q (by omega), y2q (by omega), y2q (by omega), y2q (by omega)]
     by_cases d : v.2.2.1 = true
     ·rw [lstep_dead _ _ _ hno d, d]; rfl
     ·have d' : v.2.2.1 = false := by simpa using d
      rw [lstep_live _ _ _ hno d, d']
      show br true _ _ = _
      rw [brT, y2q (by omega), y2q (by omega), y2q hcap]
  | false =>
   rw [brF, y2q (by omega), y2q (by omega)]
   show br (decide (tcmp v.2.1 at_ > 0)) _ _ = _
   by_cases c2 : Later v.2.1 at_
   ·rw [y2q (tl.2 c2), lstep_skip _ _ _ (.inr c2)]
   ·have hno : ¬ (((sn, false, out).2.1 = true ∧ v.1 = (sn, false, out).1) ∨ Later v.2.1 at_) := by
     rintro (⟨h, _⟩ | h)
     ·cases h
     ·exact c2 h
    rw [y11q (fun h => c2 (tl.1 h)), y2q (by omega), y2q (by omega), y2q (by omega), y2q (by omega)]
    by_cases d : v.2.2.1 = true
    ·rw [lstep_dead _ _ _ hno d, d]; rfl
    ·have d' : v.2.2.1 = false := by simpa using d
     rw [lstep_live _ _ _ hno d, d']
     show br true _ _ = _
     rw [brT, y2q (by omega), y2q (by omega), y2q hcap]
 ·unfold B_u20f_l0
  rw [y11q (by simp)]
  show some (stL at_ l l.length).2.2 = _
  unfold stL liveL; rw [List.take_length]
section
variable (fr to : List UInt8) (at_ : DTime) (most : Int)
def Sel (k : List UInt8) : Prop := ¬ Op.bytesLess k fr = true ∧ (to = [] ∨ Op.bytesLess k to = true)
instance (k : List UInt8) : Decidable (Sel fr to k) := inferInstanceAs (Decidable (_ ∧ _))
def sput (out : List y0q) (v : y0q) : List y0q := if Sel fr to v.1 ∧ (out.length : Int) < most then out ++ [v] else out
def put1 (out : List y0q) (v : y0q) : List y0q := if v.2.2.1 = true then out else if (out.length : Int) < most then out ++ [v] else out
def scanL : Option (List UInt8) → List y0q → List y0q → List y0q
 | _, out, [] => out
 | seen, out, v :: l => if seen = some v.1 ∨ Later v.2.1 at_ then scanL seen out l else scanL (some v.1) (if v.2.2.1 = true then out else sput fr to most out v) l
def y53q (out : List y0q) (k : List UInt8) : List y0q → List y0q
 | [] => out
 | v :: l => if v.1 = k then (if Later v.2.1 at_ then y53q out k l else put1 most out v) else out
def scanI : Option (List UInt8) → List y0q → List y0q → List y0q
 | _, out, [] => out
 | p, out, v :: l => if ¬ Sel fr to v.1 ∨ p = some v.1 then scanI (some v.1) out l else scanI (some v.1) (y53q at_ most out v.1 (v :: l)) l
theorem foldl_scan : ∀ (l : List y0q) (seen : Option (List UInt8)) (out : List y0q), (liveR at_ seen l).foldl (sput fr to most) out = scanL fr to at_ most seen out l
 | [], _, _ => by simp [liveR, scanL]
 | v :: l, seen, out => by
  unfold liveR scanL
  by_cases h : seen = some v.1 ∨ Later v.2.1 at_
  ·rw [if_pos h, if_pos h]; exact foldl_scan l seen out
  ·rw [if_neg h, if_neg h, List.foldl_append, foldl_scan l]
   by_cases d : v.2.2.1 = true
   ·rw [if_pos d, if_pos d]; rfl
   ·rw [if_neg d, if_neg d]; rfl
theorem key_apart {w v : y0q} {l : List y0q} (h : Strict (w :: v :: l)) (hk : ¬ v.1 = w.1) : ∀ x ∈ v :: l, ¬ w.1 = x.1 := by
 have h1 : Ahead w v := (List.pairwise_cons.1 h).1 v (by simp)
 have h2 : Op.bytesLess w.1 v.1 = true := by
  rcases h1 with h1 | h1
  ·exact h1
  ·exact absurd h1.1.symm hk
 intro x hx e
 rcases List.mem_cons.1 hx with rfl | hx
 ·exact hk e.symm
 ·have h3 : Ahead v x := (List.pairwise_cons.1 (List.pairwise_cons.1 h).2).1 x hx
  have h4 : Op.bytesLess w.1 x.1 = true := by
   rcases h3 with h3 | h3
   ·exact bl_trans _ _ _ h2 h3
   ·rw [← h3.1]; exact h2
  rw [e] at h4; exact bl_irr _ h4
theorem scan_same : ∀ (l : List y0q) (out : List y0q),
  (∀ p seen, Strict l → (∀ x ∈ l, p ≠ some x.1) → (∀ x ∈ l, seen ≠ some x.1) → scanL fr to at_ most seen out l = scanI fr to at_ most p out l) ∧
  (∀ w, Strict (w :: l) → scanL fr to at_ most (some w.1) out l = scanI fr to at_ most (some w.1) out l) ∧
  (∀ w seen, Strict (w :: l) → seen ≠ some w.1 → (∀ x ∈ l, seen ≠ some x.1) → scanL fr to at_ most seen out l = scanI fr to at_ most (some w.1) (if Sel fr to w.1 then y53q at_ most out w.1 l else out) l)
 | [], out => by
  refine ⟨fun _ _ _ _ _ => rfl, fun _ _ => rfl, fun w seen _ _ _ => ?_⟩
  split <;> rfl
 | v :: l, out => by
  have c1 : ∀ p seen, Strict (v :: l) → (∀ x ∈ v :: l, p ≠ some x.1) → (∀ x ∈ v :: l, seen ≠ some x.1) → scanL fr to at_ most seen out (v :: l) = scanI fr to at_ most p out (v :: l) := by
   intro p seen hs hp hn
   have hp1 := hp v (by simp)
   have hn1 := hn v (by simp)
   unfold scanL scanI
   by_cases hl : Later v.2.1 at_
   ·rw [if_pos (.inr hl)]
    have := (scan_same l out).2.2 v seen hs hn1 fun x hx => hn x (by simp [hx])
    rw [this]
    by_cases hsel : Sel fr to v.1
    ·rw [if_pos hsel, if_neg (show ¬ (¬ Sel fr to v.1 ∨ p = some v.1) from fun h => h.elim (fun h => h hsel) hp1)]
     conv => rhs; unfold y53q
     rw [if_pos rfl, if_pos hl]
    ·rw [if_neg hsel, if_pos (show ¬ Sel fr to v.1 ∨ p = some v.1 from .inl hsel)]
   ·rw [if_neg (show ¬ (seen = some v.1 ∨ Later v.2.1 at_) from fun h => h.elim hn1 hl)]
    have := (scan_same l (if v.2.2.1 = true then out else sput fr to most out v)).2.1 v hs
    rw [this]
    by_cases hsel : Sel fr to v.1
    ·conv => rhs; rw [if_neg (show ¬ (¬ Sel fr to v.1 ∨ p = some v.1) from fun h => h.elim (fun h => h hsel) hp1)]
     conv => rhs; unfold y53q
     rw [if_pos (rfl : v.1 = v.1), if_neg hl]
     unfold put1 sput
     simp only [hsel, true_and]
    ·conv => rhs; rw [if_pos (show ¬ Sel fr to v.1 ∨ p = some v.1 from .inl hsel)]
     unfold sput
     simp only [hsel, false_and, if_false, ite_self]
  refine ⟨c1, fun w hs => ?_, fun w seen hs hw hn => ?_⟩
  ·by_cases hk : v.1 = w.1
   ·unfold scanL scanI
    rw [if_pos (.inl (by rw [hk])), if_pos (.inr (by rw [hk]))]
    have := (scan_same l out).2.1 v (List.pairwise_cons.1 hs).2
    rw [hk] at this ⊢
    exact this
   ·have ha := key_apart hs hk
    have hne : ∀ x ∈ v :: l, (some w.1 : Option (List UInt8)) ≠ some x.1 := fun x hx e => ha x hx (Option.some.inj e)
    exact c1 (some w.1) (some w.1) (List.pairwise_cons.1 hs).2 hne hne
  ·by_cases hk : v.1 = w.1
   ·unfold scanI
    rw [if_pos (show _ ∨ some w.1 = some v.1 from .inr (by rw [hk]))]
    unfold scanL
    by_cases hl : Later v.2.1 at_
    ·rw [if_pos (.inr hl)]
     have := (scan_same l out).2.2 v seen (List.pairwise_cons.1 hs).2 (by rw [hk]; exact hw) fun x hx => hn x (by simp [hx])
     rw [this, hk]
     congr 1
     conv => rhs; unfold y53q
     rw [if_pos hk, if_pos hl]
    ·rw [if_neg (show ¬ (seen = some v.1 ∨ Later v.2.1 at_) from fun h => h.elim (hn v (by simp)) hl)]
     have := (scan_same l (if v.2.2.1 = true then out else sput fr to most out v)).2.1 v (List.pairwise_cons.1 hs).2
     rw [this]
     congr 1
     unfold y53q
     rw [if_pos hk, if_neg hl, ← hk]
     unfold put1 sput
     by_cases hsel : Sel fr to v.1
     ·simp only [hsel, true_and, if_true]
     ·simp only [hsel, false_and, if_false, ite_self]
   ·have ha := key_apart hs hk
    have hne : ∀ x ∈ v :: l, (some w.1 : Option (List UInt8)) ≠ some x.1 := fun x hx e => ha x hx (Option.some.inj e)
    have := c1 (some w.1) seen (List.pairwise_cons.1 hs).2 hne hn
    rw [this]
    congr 1
    unfold y53q
    rw [if_neg hk, ite_self]
end
theorem sel_br {X : Type} (fr to k : List UInt8) (x y : Option X) : br (!Op.bytesLess k fr) (br (decide (to = [])) x (br (Op.bytesLess k to) x y)) y = if Sel fr to k then x else y := by
 by_cases h1 : Op.bytesLess k fr = true
 ·rw [h1, if_neg (fun h => h.1 h1)]; rfl
 ·have e : Op.bytesLess k fr = false := by simpa using h1
  rw [e]
  show br (decide (to = [])) _ _ = _
  by_cases h2 : to = []
  ·rw [y2q h2, if_pos (show Sel fr to k from ⟨h1, .inl h2⟩)]
  ·rw [y11q h2]
   by_cases h3 : Op.bytesLess k to = true
   ·rw [h3, if_pos (show Sel fr to k from ⟨h1, .inr h3⟩)]; rfl
   ·rw [if_neg (show ¬ Sel fr to k from fun h => h.2.elim h2 h3)]
    have e3 : Op.bytesLess k to = false := by simpa using h3
    rw [e3]; rfl
theorem addFirst_cons (at_ : DTime) (most : Int) (out : List y0q) (k : List UInt8) (v : y0q) (l : List y0q) : y53q at_ most out k (v :: l) = if v.1 = k then (if Later v.2.1 at_ then y53q at_ most out k l else put1 most out v) else out := by rw [y53q]
theorem sput_len (fr to : List UInt8) (most : Int) : ∀ (l out : List y0q), (l.foldl (sput fr to most) out).length ≤ out.length + l.length
 | [], out => by simp
 | v :: l, out => by
  rw [List.foldl_cons]
  have := sput_len fr to most l (sput fr to most out v)
  have h2 : (sput fr to most out v).length ≤ out.length + 1 := by unfold sput; split <;> simp
  simp only [List.length_cons]; omega
theorem specScanL (fr to : List UInt8) (most : Int) (M : List y0q) (hM : M.length ≤ 1048576) : F_u22f_l0 fr to most M [] 0 = some (M.foldl (sput fr to most) []) := by
 unfold F_u22f_l0
 have := y38q (B := B_u22f_l0) (fun i => (fr, to, most, M, (M.take i).foldl (sput fr to most) [], ((i : Nat) : Int))) M.length (some (M.foldl (sput fr to most) [])) (fun i C hi => ?_) (fun C => ?_) (((M.length : Nat) : Int).toNat + 1) 0 (Nat.zero_le _) (by simp)
 ·exact this
 ·have hn := sput_len fr to most (M.take i) []
  have e : (M.take (i + 1)).foldl (sput fr to most) [] = sput fr to most ((M.take i).foldl (sput fr to most) []) (M.getD i y1q) := by
   rw [List.take_succ_eq_append_getElem hi, List.foldl_append, y33q hi]; rfl
  rw [e]
  simp only [List.length_take, List.length_nil] at hn
  generalize (M.take i).foldl (sput fr to most) [] = out at hn ⊢
  unfold B_u22f_l0
  generalize hv : M.getD i y1q = v
  have hcap : out.length + [v].length ≤ capN := by simp only [List.length_cons, List.length_nil]; unfold capN; omega
  simp (disch := omega) only [y9q, Int.toNat_natCast, hv, y57q]
  rw [y2q (show ((i : Nat) : Int) < M.length by omega), y2q (by omega), y2q (by omega)]
  simp only [y2q (show (0 : Int) ≤ ((i : Nat) : Int) by omega), y2q (show ((i : Nat) : Int) < M.length by omega), y2q hcap]
  rw [sel_br]
  unfold sput
  by_cases h1 : Sel fr to v.1
  ·rw [if_pos h1]
   by_cases h2 : (out.length : Int) < most
   ·rw [y2q h2, if_pos ⟨h1, h2⟩]
   ·rw [y11q h2, if_neg (fun h => h2 h.2)]
  ·rw [if_neg h1, if_neg (fun h => h1 h.1)]
 ·unfold B_u22f_l0
  rw [y11q (by simp)]
  rw [List.take_length]
theorem drop_cons {α : Type} {l : List α} {i : Nat} {z : α} (h : i < l.length) : l.drop i = l.getD i z :: l.drop (i + 1) := by
 rw [y33q h, List.getElem_cons_drop]
theorem implInner (fr to : List UInt8) (at_ : DTime) (most : Int) (L : List y0q) (hL : L.length ≤ 1048576) (v : y0q) (a b : Int) : ∀ n j (out : List y0q), j ≤ L.length → L.length < n + j → out.length ≤ 1048576 →
  forG B_u55f_l2 n (L, fr, to, most, at_, out, v, ((j : Nat) : Int), L, a, b) = some (L, fr, to, most, at_, y53q at_ most out v.1 (L.drop j), L, a, b)
 | 0, j, out, h1, h2, _ => absurd h1 (by omega)
 | n + 1, j, out, h1, h2, ho => by
  simp only [forG]
  by_cases hj : j < L.length
  ·have ih := implInner fr to at_ most L hL v a b n (j + 1) out hj (by omega) ho
   rw [drop_cons (z := y1q) hj]
   rw [addFirst_cons]
   generalize forG B_u55f_l2 n = C at ih ⊢
   unfold B_u55f_l2
   generalize hx : L.getD j y1q = x at *
   have hcap : out.length + [x].length ≤ capN := by simp only [List.length_cons, List.length_nil]; unfold capN; omega
   simp (disch := omega) only [y9q, Int.toNat_natCast, hx, y57q, implTime]
   simp only [y2q (show (0 : Int) ≤ ((j : Nat) : Int) by omega), y2q (show ((j : Nat) : Int) < L.length by omega), y2q hcap, y6q]
   by_cases hk : x.1 = v.1
   ·rw [y2q hk, if_pos hk]
    by_cases hl : Later x.2.1 at_
    ·rw [y11q (show ¬ tcmp x.2.1 at_ ≤ 0 by have := y121q.2 hl; omega), if_pos hl]; exact ih
    ·rw [y2q (show tcmp x.2.1 at_ ≤ 0 by have h3 : ¬ tcmp x.2.1 at_ > 0 := fun h => hl (y121q.1 h); omega), if_neg hl]
     unfold put1
     cases hd : x.2.2.1
     ·show br true _ _ = _
      rw [br_true]
      by_cases h2 : (out.length : Int) < most
      ·rw [y2q h2, if_pos h2]; rfl
      ·rw [y11q h2, if_neg h2]; rfl
     ·rfl
   ·rw [y11q hk, if_neg hk]
  ·have : j = L.length := by omega
   subst this
   unfold B_u55f_l2
   rw [y11q (by simp)]
   rw [List.drop_length]; rfl
theorem addFirst_len (at_ : DTime) (most : Int) (k : List UInt8) : ∀ (l out : List y0q), (y53q at_ most out k l).length ≤ out.length + 1
 | [], out => by unfold y53q; omega
 | v :: l, out => by
  rw [addFirst_cons]
  split
  ·split
   ·exact addFirst_len at_ most k l out
   ·unfold put1; split
    ·omega
    ·split <;> simp
  ·omega
theorem sel_br2 {X : Type} (fr to k : List UInt8) (x y : Option X) : br (Op.bytesLess k fr) y (br (!decide (to = [])) (br (!Op.bytesLess k to) y x) x) = if Sel fr to k then x else y := by
 by_cases h1 : Op.bytesLess k fr = true
 ·rw [h1, if_neg (fun h => h.1 h1)]; rfl
 ·have e : Op.bytesLess k fr = false := by simpa using h1
  rw [e]
  show br (!decide (to = [])) _ _ = _
  rw [br_swap]
  by_cases h2 : to = []
  ·rw [y2q h2, if_pos (show Sel fr to k from ⟨h1, .inl h2⟩)]
  ·rw [y11q h2, br_swap]
   by_cases h3 : Op.bytesLess k to = true
   ·rw [h3, if_pos (show Sel fr to k from ⟨h1, .inr h3⟩)]; rfl
   ·rw [if_neg (show ¬ Sel fr to k from fun h => h.2.elim h2 h3)]
    have e3 : Op.bytesLess k to = false := by simpa using h3
    rw [e3]; rfl
def prevK (L : List y0q) (i : Nat) : Option (List UInt8) := if i = 0 then none else some (L.getD (i - 1) y1q).1
theorem scanI_cons (fr to : List UInt8) (at_ : DTime) (most : Int) (p : Option (List UInt8)) (out : List y0q) (v : y0q) (l : List y0q) : scanI fr to at_ most p out (v :: l) = if ¬ Sel fr to v.1 ∨ p = some v.1 then scanI fr to at_ most (some v.1) out l else scanI fr to at_ most (some v.1) (y53q at_ most out v.1 (v :: l)) l := by rw [scanI]
theorem implOuter (fr to : List UInt8) (at_ : DTime) (most : Int) (L : List y0q) (hL : L.length ≤ 1048576) : ∀ n i (out : List y0q), i ≤ L.length → L.length < n + i → out.length ≤ i →
  forG B_u55f_l0 n (L, fr, to, most, at_, out, L, ((L.length : Nat) : Int), ((i : Nat) : Int)) = some (scanI fr to at_ most (prevK L i) out (L.drop i))
 | 0, i, out, h1, h2, _ => absurd h1 (by omega)
 | n + 1, i, out, h1, h2, ho => by
  simp only [forG]
  by_cases hi : i < L.length
  ·have ih := fun o ho => implOuter fr to at_ most L hL n (i + 1) o hi (by omega) ho
   have inner : F_u55f_l2 L fr to most at_ out (L.getD i y1q) ((i : Nat) : Int) L ((L.length : Nat) : Int) ((i : Nat) : Int) = some (L, fr, to, most, at_, y53q at_ most out (L.getD i y1q).1 (L.drop i), L, ((L.length : Nat) : Int), ((i : Nat) : Int)) := by
    unfold F_u55f_l2
    exact implInner fr to at_ most L hL _ _ _ _ i out h1 (by simp; omega) (by omega)
   have hp : prevK L (i + 1) = some (L.getD i y1q).1 := by unfold prevK; rw [if_neg (by omega)]; rfl
   rw [hp] at ih
   have ha := addFirst_len at_ most (L.getD i y1q).1 (L.drop i) out
   rw [drop_cons (z := y1q) hi] at inner ha ⊢
   rw [scanI_cons]
   have hpw : 0 < i → IntKind.i64.wrap ((i : Int) - 1) = ((i - 1 : Nat) : Int) := fun h => wrap_pred (by omega) h
   generalize forG B_u55f_l0 n = C at ih ⊢
   unfold B_u55f_l0
   simp (disch := omega) only [y9q, Int.toNat_natCast, y57q, inner]
   rw [y2q (show ((i : Nat) : Int) < L.length by omega), y2q (by omega), y2q (by omega)]
   rw [sel_br2]
   by_cases hs : Sel fr to (L.getD i y1q).1
   ·rw [if_pos hs]
    by_cases h0 : i = 0
    ·subst h0
     rw [y11q (by simp), if_neg (show ¬ (¬ Sel fr to (L.getD 0 y1q).1 ∨ prevK L 0 = some (L.getD 0 y1q).1) from fun h => h.elim (fun h => h hs) (fun h => by cases h))]
     rw [y6q]
     simp (disch := omega) only [y9q]
     exact ih (y53q at_ most out (L.getD 0 y1q).1 (L.getD 0 y1q :: L.drop (0 + 1))) (by omega)
    ·have hpr : prevK L i = some (L.getD (i - 1) y1q).1 := by unfold prevK; rw [if_neg h0]
     have hw := hpw (by omega)
     rw [y2q (show ((i : Nat) : Int) > 0 by omega)]
     simp only [hw, Int.toNat_natCast]
     rw [y2q (by omega), y2q (by omega), hpr]
     by_cases hk : (L.getD (i - 1) y1q).1 = (L.getD i y1q).1
     ·rw [y2q hk, if_pos (.inr (by rw [hk]))]
      exact ih out (by omega)
     ·rw [y11q hk, if_neg (show ¬ (¬ Sel fr to (L.getD i y1q).1 ∨ some (L.getD (i - 1) y1q).1 = some (L.getD i y1q).1) from fun h => h.elim (fun h => h hs) (fun h => hk (Option.some.inj h)))]
      rw [y6q]
      simp (disch := omega) only [y9q]
      exact ih (y53q at_ most out (L.getD i y1q).1 (L.getD i y1q :: L.drop (i + 1))) (by omega)
   ·rw [if_neg hs, if_pos (.inl hs)]
    exact ih out (by omega)
  ·have : i = L.length := by omega
   subst this
   unfold B_u55f_l0
   rw [y11q (by simp)]
   rw [List.drop_length]; rfl
theorem implScanned (fr to : List UInt8) (at_ : DTime) (most : Int) (L : List y0q) (hL : L.length ≤ 1048576) : F_u55f L fr to at_ most = some (scanI fr to at_ most none [] L) := by
 unfold F_u55f F_u55f_l0
 have := implOuter fr to at_ most L hL (((L.length : Nat) : Int).toNat + 1) 0 [] (Nat.zero_le _) (by simp) (by simp)
 rw [show ((0 : Nat) : Int) = 0 from rfl] at this
 rw [this]; rfl
theorem scan_both (fr to : List UInt8) (at_ : DTime) (most : Int) (L : List y0q) (h : Strict L) : (liveL at_ L).foldl (sput fr to most) [] = scanI fr to at_ most none [] L := by
 rw [liveL_eq, foldl_scan]
 exact (scan_same fr to at_ most L []).1 none none h (fun x _ h => by cases h) (fun x _ h => by cases h)
theorem sput_mem (fr to : List UInt8) (most : Int) : ∀ (l out : List y0q) (v : y0q), v ∈ l.foldl (sput fr to most) out → v ∈ out ∨ v ∈ l
 | [], out, v, h => .inl h
 | w :: l, out, v, h => by
  rw [List.foldl_cons] at h
  rcases sput_mem fr to most l _ v h with h | h
  ·unfold sput at h
   split at h
   ·rcases List.mem_append.1 h with h | h
    ·exact .inl h
    ·right; rw [List.mem_singleton.1 h]; simp
   ·exact .inl h
  ·exact .inr (by simp [h])
theorem sm_raw {s : y3q} (hs : Sm_Store 1048576 s) {v : y0q} (hv : v ∈ rawAll s) : Sm_Version 1048576 v := by
 rcases List.mem_append.1 hv with h | h
 ·exact hs.1.2 v h
 ·obtain ⟨r, hr, h⟩ := List.mem_flatMap.1 h
  exact (hs.2.1.2 r hr).1.2 v h
theorem scan_store (s : y3q) (hs : Sm_Store 1048576 s) (fr to : List UInt8) (at_ : DTime) (most : Int) : ∃ r, F_u23f s fr to at_ most = some r ∧ F_u56f s fr to at_ most = some r ∧ (r.1.length ≤ 1048576 ∧ ∀ y ∈ r.1, Sm_Version 1048576 y) := by
 have hz : ([] : List y0q).length ≤ 1048576 ∧ ∀ y ∈ ([] : List y0q), Sm_Version 1048576 y := ⟨Nat.zero_le _, fun y hy => by cases hy⟩
 unfold F_u23f F_u56f
 by_cases hok : OKP s
 case neg => rw [(specOK s hs).2 hok, (implOK s hs).2 hok]; exact ⟨_, rfl, rfl, hz⟩
 rw [(specOK s hs).1 hok, (implOK s hs).1 hok]
 show ∃ r, bnd _ _ = some r ∧ bnd _ _ = some r ∧ _
 by_cases ht : TimeP at_
 case neg => rw [(y94q at_).2 ht, (y93q at_).2 ht]; exact ⟨_, rfl, rfl, hz⟩
 rw [(y94q at_).1 ht, (y93q at_).1 ht]
 show ∃ r, br _ _ _ = some r ∧ br _ _ _ = some r ∧ _
 by_cases h1 : most < 0
 ·rw [y2q h1, y2q h1]; exact ⟨_, rfl, rfl, hz⟩
 rw [y11q h1, y11q h1]
 by_cases h2 : most > 4000
 ·rw [y2q h2, y2q h2]; exact ⟨_, rfl, rfl, hz⟩
 rw [y11q h2, y11q h2, specTime, implTime]
 show ∃ r, br _ _ _ = some r ∧ br _ _ _ = some r ∧ _
 by_cases h3 : tcmp at_ s.2.2.1 < 0
 ·rw [y2q h3, y2q h3]; exact ⟨_, rfl, rfl, hz⟩
 rw [y11q h3, y11q h3]
 obtain ⟨o1, o2, o3, o4, o5, o6⟩ := hok
 obtain ⟨t1, t2⟩ := okp_srt o4 o5
 have hall : y73q s = stab ahead (rawAll s) := both_all s ((y101q s t1 t2).2 o6) o6
 have hlen : (stab ahead (rawAll s)).length = (rawAll s).length := y26q _
 have hS := specAll s (by omega) (by omega)
 rw [hall] at hS
 rw [implAll s (by omega) (by omega), y6q, implScanned fr to at_ most _ (by omega), y6q]
 unfold F_u22f F_u20f
 have hl : (liveL at_ (stab ahead (rawAll s))).length ≤ (rawAll s).length := by
  rw [← hlen]; exact live_fold_len at_ _
 rw [hS, y6q, specLiveL at_ _ (by omega), y6q, y6q, specScanL fr to most _ (by omega), scan_both fr to at_ most _ o6]
 refine ⟨_, rfl, rfl, ?_, ?_⟩
 ·show (scanI fr to at_ most none [] (stab ahead (rawAll s))).length ≤ _
  rw [← scan_both fr to at_ most _ o6]
  have := sput_len fr to most (liveL at_ (stab ahead (rawAll s))) []
  simp only [List.length_nil] at this
  omega
 ·intro y hy
  have hy : y ∈ scanI fr to at_ most none [] (stab ahead (rawAll s)) := hy
  rw [← scan_both fr to at_ most _ o6] at hy
  rcases sput_mem fr to most _ [] y hy with h | h
  ·cases h
  ·rw [liveL_eq] at h
   exact sm_raw hs ((y39q _).mem_iff.1 (live_mem at_ _ none y h))
def ZV : y0q := ([], (0, 0, ()), false, [], ())
def ansOf (o : Option y0q) : y0q × Bool × Int := match o with
 | none => (ZV, false, 0)
 | some v => (v, true, 0)
theorem specFirst (k : List UInt8) (l : List y0q) (hl : l.length ≤ 1048576) : ∀ n i, i ≤ l.length → l.length < n + i →
  forG B_u21f_l0 n (k, ZV, l, ((i : Nat) : Int)) = some (match firstOf k (l.drop i) with | none => .inl ZV | some v => .inr (v, true, 0))
 | 0, i, h1, h2 => absurd h1 (by omega)
 | n + 1, i, h1, h2 => by
  simp only [forG]
  have ih := specFirst k l hl n (i + 1)
  generalize forG B_u21f_l0 n = C at ih ⊢
  unfold B_u21f_l0
  by_cases hi : i < l.length
  ·have ed : l.drop i = l.getD i y1q :: l.drop (i + 1) := by rw [y33q hi, List.getElem_cons_drop]
   rw [ed, firstOf]
   simp (disch := omega) only [y9q, Int.toNat_natCast, y57q]
   rw [y2q (by omega), y2q (by omega), y2q (by omega)]
   by_cases c : (l.getD i y1q).1 = k
   ·rw [y2q c, y2q (by omega), y2q (by omega), if_pos c]
   ·rw [y11q c, if_neg c]
    exact ih (by omega) (by omega)
  ·have : i = l.length := by omega
   subst this
   rw [y11q (by simp), List.drop_length]
   rfl
def toldO (k : List UInt8) (at_ : DTime) : List y0q → Option (Option y0q)
 | [] => none
 | v :: l => if v.1 = k ∧ ¬ Later v.2.1 at_ then some (if v.2.2.1 = true then none else some v) else toldO k at_ l
theorem told_join (k : List UInt8) (at_ : DTime) : ∀ l, toldR k at_ l = (toldO k at_ l).join
 | [] => rfl
 | v :: l => by
  unfold toldR toldO
  by_cases h : v.1 = k ∧ ¬ Later v.2.1 at_
  ·rw [if_pos h, if_pos h]; rfl
  ·rw [if_neg h, if_neg h]; exact told_join k at_ l
theorem implTold (k : List UInt8) (at_ : DTime) (l : List y0q) (hl : l.length ≤ 1048576) : ∀ n i, i ≤ l.length → l.length < n + i →
  forG B_u53f_l0 n (k, at_, ZV, l, (l.length : Int), ((i : Nat) : Int)) = some (match toldO k at_ (l.drop i) with | none => .inl ZV | some none => .inr (ZV, false) | some (some v) => .inr (v, true))
 | 0, i, h1, h2 => absurd h1 (by omega)
 | n + 1, i, h1, h2 => by
  simp only [forG]
  have ih := implTold k at_ l hl n (i + 1)
  generalize forG B_u53f_l0 n = C at ih ⊢
  unfold B_u53f_l0
  by_cases hi : i < l.length
  ·have ed : l.drop i = l.getD i y1q :: l.drop (i + 1) := by rw [y33q hi, List.getElem_cons_drop]
   rw [ed, toldO]
   simp (disch := omega) only [y9q, Int.toNat_natCast, y57q, implTime]
   have tl := @y121q (l.getD i y1q).2.1 at_
   rw [y2q (by omega), y2q (by omega), y2q (by omega)]
   by_cases c : (l.getD i y1q).1 = k
   ·rw [y2q c]
    show br (decide (tcmp (l.getD i y1q).2.1 at_ ≤ 0)) _ _ = _
    by_cases c2 : Later (l.getD i y1q).2.1 at_
    ·have := tl.2 c2
     rw [y11q (by omega), if_neg (show ¬ ((l.getD i y1q).1 = k ∧ ¬ Later (l.getD i y1q).2.1 at_) from fun h => h.2 c2)]
     exact ih (by omega) (by omega)
    ·have : ¬ tcmp (l.getD i y1q).2.1 at_ > 0 := fun h => c2 (tl.1 h)
     rw [y2q (by omega), if_pos (show (l.getD i y1q).1 = k ∧ ¬ Later (l.getD i y1q).2.1 at_ from ⟨c, c2⟩)]
     by_cases d : (l.getD i y1q).2.2.1 = true
     ·rw [d, brT, if_pos rfl]; rfl
     ·have d' : (l.getD i y1q).2.2.1 = false := by simpa using d
      rw [d', brF, if_neg (by simp)]
   ·rw [y11q c, if_neg (show ¬ ((l.getD i y1q).1 = k ∧ ¬ Later (l.getD i y1q).2.1 at_) from fun h => c h.1)]
    exact ih (by omega) (by omega)
  ·have : i = l.length := by omega
   subst this
   rw [y11q (by simp), List.drop_length]
   rfl
theorem told_mem (k : List UInt8) (at_ : DTime) : ∀ l v, toldR k at_ l = some v → v ∈ l
 | [], v, h => by simp [toldR] at h
 | w :: l, v, h => by
  unfold toldR at h
  split at h
  ·split at h
   ·cases h
   ·simp at h; simp [h]
  ·exact List.mem_cons_of_mem _ (told_mem k at_ l v h)
theorem implTold0 (k : List UInt8) (at_ : DTime) (l : List y0q) (hl : l.length ≤ 1048576) : F_u53f l k at_ = some ((ansOf (toldR k at_ l)).1, (ansOf (toldR k at_ l)).2.1) := by
 have h := implTold k at_ l hl (((l.length : Nat) : Int).toNat + 1) 0 (Nat.zero_le _) (by simp)
 have h : F_u53f_l0 k at_ ([], (0, 0, ()), false, [], ()) l (l.length : Int) 0 = _ := h
 unfold F_u53f
 rw [h, y6q, List.drop_zero, told_join]
 cases toldO k at_ l with
 | none => rfl
 | some o => cases o <;> rfl
theorem get_same (s : y3q) (hs : Sm_Store 1048576 s) (k : List UInt8) (at_ : DTime) : ∃ r, F_u21f s k at_ = some r ∧ F_u54f s k at_ = some r ∧ (r.1 ∈ rawAll s ∨ r.1 = ZV) := by
 unfold F_u21f F_u54f
 by_cases ok : OKP s
 ·rw [(specOK s hs).1 ok, (implOK s hs).1 ok, y6q, y6q, Bool.not_true, brF, brF]
  by_cases tk : TimeP at_
  ·rw [(y94q at_).1 tk, (y93q at_).1 tk, y6q, y6q, Bool.not_true, brF, brF, specTime, implTime, y6q, y6q]
   by_cases c : tcmp at_ s.2.2.1 < 0
   ·rw [y2q c, y2q c]
    exact ⟨_, rfl, rfl, .inr rfl⟩
   ·rw [y11q c, y11q c]
    have n4 := ok.2.2.1
    have n12 := ok.2.1
    obtain ⟨b1, b2⟩ := okp_srt ok.2.2.2.1 ok.2.2.2.2.1
    have hst := ok.2.2.2.2.2
    have hsp := (y101q s b1 b2).2 hst
    have el : (stab ahead (rawAll s)).length = (rawAll s).length := (y39q _).length_eq
    have e1 := specAll s (by omega) (by omega)
    have e2 := implAll s (by omega) (by omega)
    rw [both_all s hsp hst] at e1
    have e3 : F_u20f s at_ = some (liveL at_ (stab ahead (rawAll s))) := by
     unfold F_u20f
     rw [y127q e1, y127q (specLiveL at_ _ (by omega))]
    have hll : (liveL at_ (stab ahead (rawAll s))).length ≤ 1048576 := by
     have := live_fold_len at_ (stab ahead (rawAll s))
     unfold liveL; omega
    have e4 := specFirst k (liveL at_ (stab ahead (rawAll s))) hll (((liveL at_ (stab ahead (rawAll s))).length : Int).toNat + 1) 0 (Nat.zero_le _) (by simp)
    have e4 : F_u21f_l0 k ([], (0, 0, ()), false, [], ()) (liveL at_ (stab ahead (rawAll s))) 0 = _ := e4
    have e5 := implTold0 k at_ (stab ahead (rawAll s)) (by omega)
    rw [y127q e3, e4, y6q, List.drop_zero, liveL_eq, live_told at_ k _ none hst (by simp), y127q e2, y127q e5]
    refine ⟨ansOf (toldR k at_ (stab ahead (rawAll s))), ?_, ?_, ?_⟩
    ·cases toldR k at_ (stab ahead (rawAll s)) <;> rfl
    ·cases toldR k at_ (stab ahead (rawAll s)) <;> rfl
    ·cases ht : toldR k at_ (stab ahead (rawAll s)) with
     | none => exact .inr rfl
     | some v =>
      left
      have : v ∈ stab ahead (rawAll s) := told_mem k at_ _ v ht
      exact (y39q _).mem_iff.1 this
  ·rw [(y94q at_).2 tk, (y93q at_).2 tk, y6q, y6q, Bool.not_false, brT, brT]
   exact ⟨_, rfl, rfl, .inr rfl⟩
 ·rw [(specOK s hs).2 ok, (implOK s hs).2 ok, y6q, y6q, Bool.not_false, brT, brT]
  exact ⟨_, rfl, rfl, .inr rfl⟩
theorem sm_zv : Sm_Version 1048576 ZV := ⟨Nat.zero_le _, ⟨by unfold ZV Rng; decide, by unfold ZV Rng; decide⟩, Nat.zero_le _⟩
end Go.Ev.T1
