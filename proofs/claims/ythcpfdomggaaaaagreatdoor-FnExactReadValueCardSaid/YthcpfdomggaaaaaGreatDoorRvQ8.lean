/- Values as text: the pieces. -/
import Derived.Test.YthcpfdomggaaaaaGreatDoorRvQ7
set_option linter.unusedSimpArgs false
set_option linter.unusedVariables false
set_option maxRecDepth 100000
namespace Go.Ev.T1
open Go Go.Proofs
def innerOf (a : List UInt8) : List UInt8 := (a.take (a.length - 1)).drop 1
def quotedP (a : List UInt8) : Prop := 2 ≤ a.length ∧ a.getD 0 0 = 39 ∧ a.getD (a.length - 1) 0 = 39
instance (a : List UInt8) : Decidable (quotedP a) := by unfold quotedP; infer_instance
def numsOf (r : List UInt8) : List Int := r.map fun c => ((c.toNat : Nat) : Int)
theorem nums_back (r : List UInt8) : (numsOf r).map (fun n => UInt8.ofNat n.toNat) = r := by
  unfold numsOf
  rw [List.map_map]
  conv => rhs; rw [← List.map_id r]
  apply List.map_congr_left
  intro c _
  simp
theorem beq39 (c : UInt8) : (((c.toNat : Nat) : Int) == 39) = (c == 39) := u8_eqN c 39 (by decide)
theorem bne39 (c : UInt8) : (((c.toNat : Nat) : Int) != 39) = !(c == 39) := by unfold bne; rw [beq39]
theorem quotedLoop (a : List UInt8) (ha : a.length ≤ 1048576) (h2 : 2 ≤ a.length) : ∀ n i (out : List UInt8), 1 ≤ i → i ≤ a.length - 1 → a.length - 1 < n + i → out.length ≤ i →
    forG B_spec_l01ReadQuoted_l0 n (a, numsOf out, ((i : Nat) : Int)) = some (match unq ((a.take (a.length - 1)).drop i) with | some r => .inl (numsOf (out ++ r)) | none => .inr ([], false)) := by
  intro n
  induction n with
  | zero => intro i out h1 h3 h4; omega
  | succ n ih =>
    intro i out h1 h3 h4 h5
    simp only [forG]
    have ih1 := ih (i + 1) (out ++ [a.getD i 0]) (by omega)
    have ih2 := ih (i + 2) (out ++ [a.getD (i + 1) 0]) (by omega)
    generalize forG B_spec_l01ReadQuoted_l0 n = C at ih1 ih2 ⊢
    have wl := wrap_len a ha (by omega)
    have w1 : IntKind.i64.wrap (((i : Nat) : Int) + 1) = ((i + 1 : Nat) : Int) := wrap_succ (by omega)
    have w2 : IntKind.i64.wrap (((i + 1 : Nat) : Int) + 1) = ((i + 2 : Nat) : Int) := wrap_succ (by omega)
    have nu : ∀ c : UInt8, numsOf out ++ [((c.toNat : Nat) : Int)] = numsOf (out ++ [c]) := fun c => by simp [numsOf]
    have nl : (numsOf out).length = out.length := by simp [numsOf]
    unfold B_spec_l01ReadQuoted_l0
    by_cases hi : i < a.length - 1
    · have hc : ∀ j, j < a.length - 1 → (a.take (a.length - 1)).drop j = a.getD j 0 :: (a.take (a.length - 1)).drop (j + 1) := fun j hj => by
        rw [getD_lt (show j < a.length by omega), ← List.getElem_cons_drop (h := show j < (a.take (a.length - 1)).length by simp; omega)]
        simp
      simp only [wl, w1, w2, Int.toNat_natCast]
      rw [br_pos (by omega), br_pos (by omega), br_pos (by omega), beq39, beq_dec, hc i hi]
      by_cases h39 : a.getD i 0 = 39
      · rw [br_pos h39, h39]
        by_cases hn : i + 1 < a.length - 1
        · rw [br_neg (by omega), br_pos (by omega), br_pos (by omega), bne39, beq_dec, not_dec, hc (i + 1) hn]
          by_cases h39' : a.getD (i + 1) 0 = 39
          · rw [br_neg (fun h => h h39'), br_pos (by omega), br_pos (by omega), br_pos (by rw [nl]; simp; unfold capN; omega), nu, ih2 (by omega) (by omega) (by simp; omega), h39', unq_pair]
            cases unq ((a.take (a.length - 1)).drop (i + 1 + 1)) with
            | none => rfl
            | some r => simp
          · rw [br_pos h39', unq_one _ (by simpa using h39')]
        · rw [br_pos (by omega), show (a.take (a.length - 1)).drop (i + 1) = [] by rw [List.drop_eq_nil_iff]; simp; omega]
          rfl
      · rw [br_neg h39, br_pos (by omega), br_pos (by omega), br_pos (by rw [nl]; simp; unfold capN; omega), nu, ih1 (by omega) (by omega) (by simp; omega), unq_other _ h39]
        cases unq ((a.take (a.length - 1)).drop (i + 1)) with
        | none => rfl
        | some r => simp
    · simp only [wl]
      rw [br_neg (by omega), show (a.take (a.length - 1)).drop i = [] by rw [List.drop_eq_nil_iff]; simp; omega]
      simp [unq]
theorem specQuoted (a : List UInt8) (ha : a.length ≤ 1048576) : F_spec_l01ReadQuoted a = some (if quotedP a then (match unq (innerOf a) with | some r => (r, true) | none => ([], false)) else ([], false)) := by
  unfold F_spec_l01ReadQuoted
  by_cases h2 : (a.length : Int) < 2
  · rw [br_pos h2, if_neg (fun h => by have := h.1; omega)]
  · rw [br_neg h2, br_pos (by decide), br_pos (by omega), show ((((a.getD (Int.toNat 0) 0).toNat : Nat) : Int) != 39) = !(a.getD 0 0 == 39) from bne39 _, beq_dec, not_dec]
    by_cases h0 : a.getD 0 0 = 39
    · rw [br_neg (fun h => h h0), wrap_len a ha (by omega), br_pos (by omega), br_pos (by omega), Int.toNat_natCast, bne39, beq_dec, not_dec]
      by_cases h1 : a.getD (a.length - 1) 0 = 39
      · rw [br_neg (fun h => h h1), if_pos ⟨by omega, h0, h1⟩]
        have key := quotedLoop a ha (by omega) (a.length + 1) 1 [] (by omega) (by omega) (by omega) (by simp)
        have key : F_spec_l01ReadQuoted_l0 a [] 1 = _ := key
        rw [key, bnd_some']
        unfold innerOf
        cases unq ((a.take (a.length - 1)).drop 1) with
        | none => rfl
        | some r =>
          show some ((numsOf ([] ++ r)).map (fun n => UInt8.ofNat n.toNat), true) = _
          rw [nums_back]; rfl
      · rw [br_pos h1, if_neg (fun h => h1 h.2.2)]
    · rw [br_pos h0, if_neg (fun h => h0 h.2.1)]
def prn (c : UInt8) : Prop := 32 ≤ c.toNat ∧ c.toNat ≤ 126
def Prn (s : List UInt8) : Prop := ∀ c ∈ s, prn c
theorem prn_iff {s : List UInt8} : (∀ i, i < s.length → 32 ≤ (s.getD i 0).toNat ∧ (s.getD i 0).toNat ≤ 126) ↔ Prn s := by
  constructor
  · intro h c hc
    obtain ⟨i, hi, rfl⟩ := List.getElem_of_mem hc
    have := h i hi
    rwa [getD_lt hi] at this
  · intro h i hi; rw [getD_lt hi]; exact h _ (List.getElem_mem hi)
theorem specPrn (s : List UInt8) (hl : s.length ≤ 1048576) : Ans (F_spec_l01Printable s) (some true) (some false) (Prn s) := by
  unfold F_spec_l01Printable F_spec_l01Printable_l0
  refine ans_iff (ans_bnd_end (a := .inl ()) (b := .inr false) (ans_loop (fun i => (s, ((i : Nat) : Int))) s.length (fun i => 32 ≤ (s.getD i 0).toNat ∧ (s.getD i 0).toNat ≤ 126) (fun i C hi hb => ?_) (fun C _ => ?_) (by omega)) rfl rfl) prn_iff
  · unfold B_spec_l01Printable_l0
    simp (disch := omega) only [wrap_succ, Int.toNat_natCast]
    refine ans_iff (ans_chk (by omega) (ans_chk (by omega) (ans_chk (by omega) (ans_br_no fun _ => ans_chk (by omega) (ans_chk (by omega) (ans_br_no fun _ => ans_yes)))))) ?_
    simp only [and_true]
    omega
  · unfold B_spec_l01Printable_l0
    exact br_neg (by simp) _ _
theorem implPrn (s : List UInt8) (hl : s.length ≤ 1048576) : Ans (F_impl_printable s) (some true) (some false) (Prn s) := by
  unfold F_impl_printable F_impl_printable_l0
  refine ans_iff (ans_bnd_end (a := .inl ()) (b := .inr false) (ans_loop (fun i => (s, ((i : Nat) : Int))) s.length (fun i => 32 ≤ (s.getD i 0).toNat ∧ (s.getD i 0).toNat ≤ 126) (fun i C hi hb => ?_) (fun C _ => ?_) (by omega)) rfl rfl) prn_iff
  · unfold B_impl_printable_l0
    simp (disch := omega) only [wrap_succ, Int.toNat_natCast]
    refine ans_iff (ans_chk (by omega) (ans_chk (by omega) (ans_chk (by omega) (ans_br_no fun _ => ans_chk (by omega) (ans_chk (by omega) (ans_br_no fun _ => ans_yes)))))) ?_
    simp only [and_true]
    omega
  · unfold B_impl_printable_l0
    exact br_neg (by simp) _ _
/-- a day with a letter that is neither a digit nor '-': none -/
theorem day_bad (s : List UInt8) (h : (39 : UInt8) ∈ s) : F_spec_l01ReadDay s = some (ZV, 5) := by
  unfold F_spec_l01ReadDay
  simp only [bne_dec]
  by_cases h10 : (s.length : Int) = 10
  · rw [br_neg (fun h => h h10), br_pos (show 0 ≤ 4 by decide), br_pos (show (4 : Int) < s.length by omega)]
    by_cases c4 : (((s.getD (Int.toNat 4) 0).toNat : Nat) : Int) = 45
    · rw [br_neg (fun h => h c4), br_pos (show 0 ≤ 7 by decide), br_pos (show (7 : Int) < s.length by omega)]
      by_cases c7 : (((s.getD (Int.toNat 7) 0).toNat : Nat) : Int) = 45
      · rw [br_neg (fun h => h c7), br_pos (show 0 ≤ 4 by decide), br_pos (show (4 : Int) ≤ s.length by omega), specCount, bnd_some', br_pos (show 0 ≤ 5 by decide), br_pos (show 5 ≤ 7 by decide), br_pos (show (7 : Int) ≤ s.length by omega), specCount, bnd_some', br_pos (show 0 ≤ 8 by decide), br_pos (show (8 : Int) ≤ s.length by omega), specCount, bnd_some']
        have hno : ¬ (Dig (s.take (Int.toNat 4)) ∧ Dig ((s.take (Int.toNat 7)).drop (Int.toNat 5)) ∧ Dig (s.drop (Int.toNat 8))) := by
          rintro ⟨d1, d2, d3⟩
          obtain ⟨i, hi, e⟩ := List.getElem_of_mem h
          have e : s.getD i 0 = 39 := by rw [getD_lt hi, e]
          have nd : ¬ isD 39 := by decide
          by_cases i4 : i < 4
          · exact nd (e ▸ d1 _ (by rw [getD_lt hi]; exact List.mem_take_iff_getElem.2 ⟨i, by simp; omega, rfl⟩))
          · by_cases i4' : i = 4
            · subst i4'; have : s.getD (Int.toNat 4) 0 = 39 := e
              rw [this] at c4; exact absurd c4 (by decide)
            · by_cases i7 : i < 7
              · refine nd (e ▸ d2 _ ?_)
                rw [getD_lt hi]
                exact List.mem_drop_iff_getElem.2 ⟨i - 5, by simp; omega, by simp; congr 1; omega⟩
              · by_cases i7' : i = 7
                · subst i7'; have : s.getD (Int.toNat 7) 0 = 39 := e
                  rw [this] at c7; exact absurd c7 (by decide)
                · refine nd (e ▸ d3 _ ?_)
                  rw [getD_lt hi]
                  exact List.mem_drop_iff_getElem.2 ⟨i - 8, by simp; omega, by simp; congr 1; omega⟩
        by_cases d1 : 1 ≤ (s.take (Int.toNat 4)).length ∧ (s.take (Int.toNat 4)).length ≤ 16 ∧ Dig (s.take (Int.toNat 4))
        · rw [if_pos d1]
          by_cases d2 : 1 ≤ ((s.take (Int.toNat 7)).drop (Int.toNat 5)).length ∧ ((s.take (Int.toNat 7)).drop (Int.toNat 5)).length ≤ 16 ∧ Dig ((s.take (Int.toNat 7)).drop (Int.toNat 5))
          · rw [if_pos d2, if_neg (fun d3 => hno ⟨d1.2.2, d2.2.2, d3.2.2⟩)]; rfl
          · rw [if_neg d2]; rfl
        · rw [if_neg d1]; rfl
      · rw [br_pos c7]; rfl
    · rw [br_pos c4]; rfl
  · rw [br_pos h10]; rfl
theorem day_bad' (s : List UInt8) (h : (39 : UInt8) ∈ s) : F_impl_readDay s = some (ZV, 5) := by
  obtain ⟨r, h1, h2⟩ := readDaySame s
  rw [day_bad s h] at h1
  rw [h2, ← h1]
/-- without quotes: as it stands -/
theorem unq_plain : ∀ l : List UInt8, (39 : UInt8) ∉ l → unq l = some l
  | [], _ => rfl
  | c :: l, h => by
    rw [List.mem_cons, not_or] at h
    rw [unq_other l (fun e => h.1 e.symm), unq_plain l h.2]; rfl
theorem unq_quote : ∀ (n : Nat) (l r : List UInt8), l.length ≤ n → unq l = some r → (39 : UInt8) ∈ l → (39 : UInt8) ∈ r
  | _, [], r, _, h, hm => by simp at hm
  | 0, c :: l, r, h, _, _ => by simp at h
  | n + 1, [c], r, _, h, hm => by
    have : c = 39 := (List.mem_singleton.1 hm).symm
    subst this
    cases h
  | n + 1, c :: d :: l, r, hl, h, hm => by
    rw [unq] at h
    simp only [List.length_cons] at hl
    split at h
    · split at h
      · obtain ⟨y, hy, rfl⟩ := Option.map_eq_some_iff.1 h
        simp
      · cases h
    · rename_i hc
      obtain ⟨y, hy, rfl⟩ := Option.map_eq_some_iff.1 h
      have hm' : (39 : UInt8) ∈ d :: l := by
        rcases List.mem_cons.1 hm with e | e
        · exact absurd e.symm hc
        · exact e
      exact List.mem_cons_of_mem _ (unq_quote n (d :: l) y (by simp; omega) hy hm')
theorem rep_len : ∀ (n : Nat) (l : List UInt8), l.length ≤ n → (Go.Lib.replaceAll l old2 []).length ≤ l.length
  | _, [], _ => by rw [rep_nil _ (by decide)]; exact Nat.le_refl _
  | 0, c :: r, h => by simp at h
  | n + 1, c :: r, h => by
    simp only [List.length_cons] at h ⊢
    by_cases hp : old2.isPrefixOf (c :: r) = true
    · cases r with
      | nil => simp [old2, List.isPrefixOf] at hp
      | cons d r =>
        have hc : c = 39 ∧ d = 39 := by
          simp [old2, List.isPrefixOf] at hp
          exact ⟨hp.1.symm, hp.2.symm⟩
        obtain ⟨rfl, rfl⟩ := hc
        rw [rep_hit _ (by decide), List.nil_append]
        simp only [List.length_cons] at h ⊢
        have := rep_len n r (by omega)
        omega
    · rw [rep_miss [] (by decide) c r (Bool.eq_false_iff.2 hp), List.length_cons]
      have := rep_len n r (by omega)
      omega
end Go.Ev.T1
