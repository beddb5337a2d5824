/- Analyze: the values in order, both ways. -/
import Derived.Test.YtfdmjgmipnohkaaAnQ5
set_option linter.unusedSimpArgs false
set_option linter.unusedVariables false
set_option maxRecDepth 100000
namespace Go.Ev.T1
open Go Go.Proofs
/-- one value before another (texts are behind all else) -/
def lv (a b : DValue) : Bool := if a.1 = 4 then (if b.1 = 4 then Op.bytesLess a.2.2.2.1 b.2.2.2.1 else false) else if b.1 = 4 then true else decide (wt a < wt b)
theorem bl_neg : ∀ x y z : List UInt8, Op.bytesLess x y = false → Op.bytesLess y z = false → Op.bytesLess x z = false := by
  have trans : ∀ x y z : List UInt8, Op.bytesLess x y = true → Op.bytesLess y z = true → Op.bytesLess x z = true := by
    intro x
    induction x with
    | nil =>
      intro y z h k
      cases y with
      | nil => simp [Op.bytesLess] at h
      | cons b y => cases z with
        | nil => simp [Op.bytesLess] at k
        | cons c z => simp [Op.bytesLess]
    | cons a x ih =>
      intro y z h k
      cases y with
      | nil => simp [Op.bytesLess] at h
      | cons b y => cases z with
        | nil => simp [Op.bytesLess] at k
        | cons c z =>
          simp only [Op.bytesLess, Bool.or_eq_true, decide_eq_true_eq, Bool.and_eq_true, beq_iff_eq, UInt8.lt_iff_toNat_lt] at h k ⊢
          rcases h with h | ⟨rfl, h⟩ <;> rcases k with k | ⟨rfl, k⟩
          · exact .inl (by omega)
          · exact .inl h
          · exact .inl k
          · exact .inr ⟨rfl, ih y z h k⟩
  intro x y z h k
  cases e : Op.bytesLess x z with
  | false => rfl
  | true =>
    cases g : Op.bytesLess y x with
    | true => rw [trans y x z g e] at k; exact k
    | false => rw [lt_tri x y h g] at e; rw [e] at k; exact k
theorem lv_weak : Weak lv := by
  refine ⟨fun a b h => ?_, fun a b c h k => ?_⟩
  · unfold lv at *
    by_cases ha : a.1 = 4 <;> by_cases hb : b.1 = 4 <;> simp [ha, hb] at h ⊢
    · exact lt_asymm _ _ h
    · omega
  · unfold lv at *
    by_cases ha : a.1 = 4 <;> by_cases hb : b.1 = 4 <;> by_cases hc : c.1 = 4 <;> simp [ha, hb, hc] at h k ⊢
    · exact bl_neg _ _ _ h k
    · omega
theorem tc_lt (x y : List UInt8) : tc x y < 0 ↔ Op.bytesLess x y = true := by
  unfold tc
  cases h : Op.bytesLess x y <;> cases g : Op.bytesLess y x <;> simp
theorem tc_gt (x y : List UInt8) : tc x y > 0 ↔ Op.bytesLess y x = true := by
  unfold tc
  cases h : Op.bytesLess x y <;> cases g : Op.bytesLess y x <;> simp
  rw [lt_asymm _ _ h] at g; cases g
theorem cv_lt {a b : DValue} (h : cl a = cl b) : cv a b < 0 ↔ lv a b = true := by
  unfold cv lv
  by_cases ha : a.1 = 4
  · rw [if_pos ha, if_pos ha, if_pos (cl_four h ha)]; exact tc_lt _ _
  · rw [if_neg ha, if_neg ha, if_neg (fun hb => ha (cl_four h.symm hb)), decide_eq_true_iff]
    unfold sg; (repeat' split) <;> omega
theorem cv_gt {a b : DValue} (h : cl a = cl b) : cv a b > 0 ↔ lv b a = true := by
  unfold cv lv
  by_cases ha : a.1 = 4
  · rw [if_pos ha, if_pos ha, if_pos (cl_four h ha)]; exact tc_gt _ _
  · rw [if_neg ha, if_neg (fun hb => ha (cl_four h.symm hb)), if_neg ha, decide_eq_true_iff]
    unfold sg; (repeat' split) <;> omega
/-- of one class -/
def One (l : List DValue) : Prop := ∀ a ∈ l, ∀ b ∈ l, cl a = cl b
theorem Alike.one {l : List DValue} (h : Alike l) : One l := by
  intro a ha b hb
  obtain ⟨i, hi, rfl⟩ := List.mem_iff_getElem.1 ha
  obtain ⟨j, hj, rfl⟩ := List.mem_iff_getElem.1 hb
  have e : ∀ k (hk : k < l.length), l.getD k ZValue = l[k] := fun k hk => by simp [List.getD_eq_getElem?_getD, hk]
  rcases Nat.lt_trichotomy i j with g | g | g
  · have := h j hj i g
    rw [e j hj, e i hi] at this; exact this.symm
  · subst g; rfl
  · have := h i hi j g
    rw [e j hj, e i hi] at this; exact this
theorem kcmp {l : List DValue} (hn : Nn l) (h1 : One l) {a b : DValue} (ha : a ∈ l) (hb : b ∈ l) : F_impl_kCompare a b = some (cv a b) :=
  implKCompare a b (hn a ha).1 (hn b hb).1 (hn a ha).2 (hn b hb).2 (h1 a ha b hb)
theorem scmp {l : List DValue} (hn : Nn l) (h1 : One l) {a b : DValue} (ha : a ∈ l) (hb : b ∈ l) : F_spec_l01Cmp ([], ()) a b = some (cv a b) :=
  specCmp a b (hn a ha).1 (hn b hb).1 (hn a ha).2 (hn b hb).2 (h1 a ha b hb)
theorem srtOk {l : List DValue} (hn : Nn l) (h1 : One l) : SrtOk ZValue (fun ys i j => bnd (F_impl_Analyze_1 i j ys) fun y => some y) l lv := by
  refine ⟨lv_weak, fun ys hy hm i j hi hj => ?_⟩
  show bnd (F_impl_Analyze_1 i j ys) _ = _
  unfold F_impl_Analyze_1
  have mi : ys.getD i ZValue ∈ l := hm _ (mem_getD (by omega))
  have mj : ys.getD j ZValue ∈ l := hm _ (mem_getD (by omega))
  rw [br_pos (by omega), br_pos (by omega), br_pos (by omega), br_pos (by omega)]
  simp only [Int.toNat_natCast]
  rw [kcmp hn h1 mi mj, bnd_some', bnd_some']
  have := cv_lt (h1 _ mi _ mj)
  cases e : lv (ys.getD i ZValue) (ys.getD j ZValue) with
  | true => rw [decide_eq_true (this.2 e)]
  | false => rw [decide_eq_false (fun g => by rw [this.1 g] at e; cases e)]
theorem implSorted {l : List DValue} (hn : Nn l) (h1 : One l) : srt ZValue (fun ys i j => bnd (F_impl_Analyze_1 i j ys) fun y => some y) l = some (stab lv l) := srt_eq (srtOk hn h1)
/-- where a value goes -/
theorem specPlace (c : Int) (v6 hh : DHist) (l L : List DValue) (i : Nat) (hi : i < l.length) (hn : Nn l) (h1 : One l) (hL : ∀ x ∈ L, x ∈ l) (hl : L.length ≤ 2000) :
    ∀ n at_, at_ ≤ L.length → at_ < n → (∀ j, at_ ≤ j → j < L.length → lv (l.getD i ZValue) (L.getD j ZValue) = true) →
      ∃ p, p ≤ L.length ∧ forG B_spec_Analyze_l4 n (c, v6, l, hh, L, (i : Int), (at_ : Int)) = some (c, v6, l, hh, L, (i : Int), (p : Int)) ∧
        (∀ j, p ≤ j → j < L.length → lv (l.getD i ZValue) (L.getD j ZValue) = true) ∧ (0 < p → lv (l.getD i ZValue) (L.getD (p - 1) ZValue) = false)
  | 0, a, h, hn', _ => absurd hn' (by omega)
  | n + 1, 0, h, hn', hj => ⟨0, by omega, by simp only [forG]; unfold B_spec_Analyze_l4; exact br_neg (by simp) _ _, hj, fun h => absurd h (by omega)⟩
  | n + 1, a + 1, h, hn', hj => by
    have e : IntKind.i64.wrap (((a + 1 : Nat) : Int) - 1) = (a : Int) := by rw [wrap_eq (by omega) (by omega)]; omega
    have mi : l.getD i ZValue ∈ l := mem_getD hi
    have mj : L.getD a ZValue ∈ l := hL _ (mem_getD (by omega))
    have key : ∀ C, B_spec_Analyze_l4 (c, v6, l, hh, L, (i : Int), ((a + 1 : Nat) : Int)) C = br (decide (cv (L.getD a ZValue) (l.getD i ZValue) > 0)) (C (c, v6, l, hh, L, (i : Int), (a : Int))) (some (c, v6, l, hh, L, (i : Int), ((a + 1 : Nat) : Int))) := by
      intro C
      unfold B_spec_Analyze_l4
      simp only [e, Int.toNat_natCast]
      rw [br_pos (by omega), br_pos (by omega), br_pos (by omega), br_pos (by omega), br_pos (by omega), scmp hn h1 mj mi, bnd_some']
    simp only [forG]
    rw [key]
    by_cases hg : cv (L.getD a ZValue) (l.getD i ZValue) > 0
    · rw [br_pos hg]
      exact specPlace c v6 hh l L i hi hn h1 hL hl n a (by omega) (by omega) fun j h0 h2 => by
        rcases Nat.lt_or_ge a j with g | g
        · exact hj j (by omega) h2
        · have : j = a := by omega
          subst this; exact (cv_gt (h1 _ mj _ mi)).1 hg
    · rw [br_neg hg]
      refine ⟨a + 1, h, rfl, hj, fun _ => ?_⟩
      rw [Nat.add_sub_cancel]
      cases e : lv (l.getD i ZValue) (L.getD a ZValue) with
      | false => rfl
      | true => exact absurd ((cv_gt (h1 _ mj _ mi)).2 e) hg
theorem insert_eq {L : List DValue} (hs : Srt lv L) (v : DValue) (p : Nat) (hp : p ≤ L.length) (h1 : ∀ j, p ≤ j → j < L.length → lv v (L.getD j ZValue) = true) (h2 : 0 < p → lv v (L.getD (p - 1) ZValue) = false) :
    L.take p ++ v :: L.drop p = mrg lv L [v] := by
  have e : ∀ k (hk : k < L.length), L.getD k ZValue = L[k] := fun k hk => by simp [List.getD_eq_getElem?_getD, hk]
  rw [← mrg_one lv_weak v (L.take p) (L.drop p), List.take_append_drop]
  · intro a ha
    obtain ⟨j, hj, rfl⟩ := List.mem_iff_getElem.1 ha
    rw [List.length_take] at hj
    rw [List.getElem_take]
    have h3 := h2 (by omega)
    rw [e _ (by omega)] at h3
    by_cases g : j = p - 1
    · subst g; exact h3
    · exact lv_weak.neg _ _ _ h3 (List.pairwise_iff_getElem.1 hs j (p - 1) (by omega) (by omega) (by omega))
  · intro a ha
    obtain ⟨j, hj, rfl⟩ := List.mem_iff_getElem.1 ha
    rw [List.length_drop] at hj
    rw [List.getElem_drop, ← e _ (by omega)]
    exact h1 _ (by omega) (by omega)
theorem mem_take {α : Type} {l : List α} {i : Nat} {x : α} (h : x ∈ l.take i) : x ∈ l := List.mem_of_mem_take h
theorem stab_mem (l : List DValue) (x : DValue) : x ∈ stab lv l ↔ x ∈ l := (stab_perm l).mem_iff
theorem specSorted (c : Int) (v6 hh : DHist) (l : List DValue) (hl : l.length ≤ 2000) (hn : Nn l) (h1 : One l) :
    F_spec_Analyze_l2 c v6 l hh [] 0 = some (c, v6, hh, stab lv l) := by
  unfold F_spec_Analyze_l2
  have := ans_loop (X := Int × DHist × DHist × List DValue) (no := none) (B := B_spec_Analyze_l2) (yes := some (c, v6, hh, stab lv l)) (fun i => (c, v6, l, hh, stab lv (l.take i), ((i : Nat) : Int))) l.length (fun _ => True) (fun i C hi hb => ?_) (fun C _ => ?_) (n := ((l.length : Int)).toNat + 1) (by omega)
  · exact this.1 fun _ _ => trivial
  · refine ans_end ?_
    have hlen : (stab lv (l.take i)).length = i := by rw [stab_length, List.length_take]; omega
    obtain ⟨p, hp, e, k1, k2⟩ := specPlace c v6 hh l (stab lv (l.take i)) i hi hn h1 (fun x hx => mem_take ((stab_mem _ _).1 hx)) (by omega) ((stab lv (l.take i)).length + 1) (stab lv (l.take i)).length (Nat.le_refl _) (by omega) (fun j h h' => absurd h (by omega))
    unfold B_spec_Analyze_l2
    simp only
    rw [br_pos (by omega)]
    unfold F_spec_Analyze_l4
    rw [e, bnd_some']
    dsimp only
    simp only [Nat.zero_add, List.take_length, Int.toNat_natCast, List.nil_append]
    rw [br_pos (by omega), br_pos (by omega), br_pos (by rw [List.length_drop]; unfold capN; omega), br_pos (by omega), br_pos (by omega), br_pos (by omega), br_pos (by omega), br_pos trivial,
      br_pos (by simp only [List.length_singleton]; unfold capN; omega), br_pos (by simp only [List.length_append, List.length_take, List.length_drop, List.length_singleton]; unfold capN; omega), wrap_succ (by omega)]
    congr 1
    simp only [Prod.mk.injEq, true_and, and_true]
    rw [← take_snoc (z := ZValue) hi, stab_append lv_weak, stab_one, ← insert_eq (stab_srt lv_weak _) _ p hp k1 k2]
    simp
  · unfold B_spec_Analyze_l2
    rw [List.take_length]
    exact br_neg (Int.lt_irrefl _) _ _
end Go.Ev.T1
