/- The table of types, held against the program's. -/
import Derived.Test.YticlnmiakaelkaaEvEnv
set_option linter.unusedSimpArgs false
set_option linter.unusedVariables false
namespace Go.Ev

def zz : List V → List Value → Bool
  | [], [] => true
  | .i k n :: l, .int j n' :: m => kEq k j && decide (n = n') && zz l m
  | .b x :: l, .bool y :: m => (x == y) && zz l m
  | .s [] :: l, .string s :: m => (match s.data.toList with
    | [] => true
    | _ => false) && zz l m
  | .nil :: l, .slice none n c :: m => Nat.beq n 0 && Nat.beq c 0 && zz l m
  | _, _ => false
def zeroOk (t : Ty) : Option Value → Bool
  | some (.agg cs) => t.isAgg && zz (zeros t []) cs.toList
  | some z => !t.isAgg && zz (zeros t []) [z]
  | none => false
def fieldsOk (P : Program) : List Field → List Nat → List Nat → Bool
  | [], [], [] => true
  | f :: fs, d :: ds, s :: ss => Nat.beq f.offset d && (match P.info? f.type with
    | some j => Nat.beq j.size s && !Nat.beq s 0
    | none => false) && fieldsOk P fs ds ss
  | _, _, _ => false
def shapeOk (P : Program) (Γ : Tab) (ti : TI) : TypeDesc → Bool
  | .int k => match ti.ty with
    | .int j => kEq k j
    | _ => false
  | .bool => match ti.ty with
    | .bool => true
    | _ => false
  | .string => match ti.ty with
    | .str => true
    | _ => false
  | .slice el => match ti.ty with
    | .sl t => Nat.beq el ti.elem && (match find Γ ti.elem with
      | some tj => (match Ty.decEq tj.ty t with
        | .isTrue _ => true
        | .isFalse _ => false) && !Nat.beq t.size 0
      | none => false)
    | _ => false
  | .struct fs => ti.ty.isAgg && fieldsOk P fs.toList ti.offs ti.sizes
  | _ => false
def tiOk (P : Program) (Γ : Tab) (T : Nat) (ti : TI) : Bool := match P.info? T, P.underlying T with
  | some i, some d => Nat.beq i.size ti.ty.size && Nat.beq i.bytes ti.bytes && Nat.ble ti.bytes 1024 && zeroOk ti.ty i.zero && shapeOk P Γ ti d
  | _, _ => false
def tabOk (P : Program) (Γ : Tab) : List (Nat × TI) → Bool
  | [] => true
  | (T, ti) :: r => tiOk P Γ T ti && tabOk P Γ r

structure TyOk (P : Program) (Γ : Tab) (T : Nat) (ti : TI) : Prop where
  info : ∃ i z cs, P.info? T = some i ∧ i.size = ti.ty.size ∧ i.bytes = ti.bytes ∧ i.zero = some z ∧ z.cells = List.toArray cs ∧ AsVal ti.ty cs z ∧ ∀ m, R2 (Lv m) (zeros ti.ty []) cs
  small : ti.bytes ≤ 1024
  under : ∃ d, P.underlying T = some d ∧ d.isRow = ti.ty.isAgg ∧ (ti.ty.isAgg = true → ∃ fs, d = .struct fs ∧ fieldsOk P fs.toList ti.offs ti.sizes = true)
  int : ∀ k, ti.ty = .int k → P.underlying T = some (.int k)
  str : ti.ty = .str → P.underlying T = some .string
  bool : ti.ty = .bool → P.underlying T = some .bool
  sl : ∀ t, ti.ty = .sl t → P.underlying T = some (.slice ti.elem) ∧ 0 < t.size ∧ ∃ tj, find Γ ti.elem = some tj ∧ tj.ty = t
def TabOk (P : Program) (Γ : Tab) : Prop := ∀ T ti, find Γ T = some ti → TyOk P Γ T ti

theorem zz_rel (m : St) : ∀ (l : List V) (cs : List Value), zz l cs = true → R2 (Lv m) l cs
  | [], [], _ => trivial
  | [], _ :: _, h => by simp [zz] at h
  | _ :: _, [], h => by rename_i v _; cases v <;> simp [zz] at h <;> (rename_i x; cases x <;> simp [zz] at h)
  | .i k n :: l, c :: cs, h => by
    cases c <;> simp [zz] at h
    obtain ⟨⟨h1, h2⟩, h3⟩ := h
    have := kEq_eq h1
    subst this; subst h2
    exact ⟨rfl, zz_rel m l cs h3⟩
  | .b x :: l, c :: cs, h => by
    cases c <;> simp [zz] at h
    obtain ⟨h1, h3⟩ := h
    subst h1
    exact ⟨rfl, zz_rel m l cs h3⟩
  | .s x :: l, c :: cs, h => by
    cases x with
    | cons => simp [zz] at h
    | nil =>
      cases c <;> simp only [zz, Bool.and_eq_true, Bool.false_eq_true] at h
      rename_i s
      obtain ⟨h1, h3⟩ := h
      refine ⟨⟨s, rfl, ?_⟩, zz_rel m l cs h3⟩
      cases hs : s.data.toList with
      | nil => rfl
      | cons a b => rw [hs] at h1; simp at h1
  | .nil :: l, c :: cs, h => by
    cases c with
    | slice A n cp =>
      cases A with
      | some a => simp [zz] at h
      | none =>
        simp only [zz, Bool.and_eq_true] at h
        obtain ⟨⟨h1, h2⟩, h3⟩ := h
        have e1 := Nat.eq_of_beq_eq_true h1
        have e2 := Nat.eq_of_beq_eq_true h2
        subst e1; subst e2
        exact ⟨rfl, zz_rel m l cs h3⟩
    | _ => simp [zz] at h
  | .sl _ _ :: _, _ :: _, h => by simp [zz] at h
  | .row _ :: _, _ :: _, h => by simp [zz] at h
  | .loc _ _ :: _, _ :: _, h => by simp [zz] at h
  | .el _ _ _ :: _, _ :: _, h => by simp [zz] at h
  | .rel _ _ _ _ :: _, _ :: _, h => by simp [zz] at h
  | .clo _ _ :: _, _ :: _, h => by simp [zz] at h

theorem zeroOk_rel {t : Ty} {z : Option Value} (h : zeroOk t z = true) : ∃ v cs, z = some v ∧ v.cells = List.toArray cs ∧ AsVal t cs v ∧ ∀ m, R2 (Lv m) (zeros t []) cs := by
  cases z with
  | none => simp [zeroOk] at h
  | some v =>
    by_cases ha : ∃ cs, v = .agg cs
    · obtain ⟨cs, rfl⟩ := ha
      simp only [zeroOk, Bool.and_eq_true] at h
      exact ⟨_, cs.toList, rfl, by simp [Value.cells], by simp [AsVal, h.1], fun m => zz_rel m _ _ h.2⟩
    · have h' : (!t.isAgg && zz (zeros t []) [v]) = true := by
        cases v <;> first | exact h | exact absurd ⟨_, rfl⟩ ha
      simp only [Bool.and_eq_true, Bool.not_eq_true'] at h'
      refine ⟨v, [v], rfl, ?_, by simp [AsVal, h'.1], fun m => zz_rel m _ _ h'.2⟩
      cases v <;> first | rfl | exact absurd ⟨_, rfl⟩ ha

theorem tiOk_ok {P : Program} {Γ : Tab} {T : Nat} {ti : TI} (h : tiOk P Γ T ti = true) : TyOk P Γ T ti := by
  unfold tiOk at h
  cases hi : P.info? T with
  | none => simp [hi] at h
  | some i =>
    cases hd : P.underlying T with
    | none => simp [hi, hd] at h
    | some d =>
      simp only [hi, hd, Bool.and_eq_true] at h
      obtain ⟨⟨⟨⟨h1, h2⟩, h3⟩, h4⟩, h5⟩ := h
      obtain ⟨v, cs, hv, hc, ha, hr⟩ := zeroOk_rel h4
      have e1 := Nat.eq_of_beq_eq_true h1
      have e2 := Nat.eq_of_beq_eq_true h2
      have e3 := Nat.le_of_ble_eq_true h3
      refine ⟨⟨i, v, cs, hi, e1, e2, hv, hc, ha, hr⟩, e3, ⟨d, hd, ?_, ?_⟩, ?_, ?_, ?_, ?_⟩
      · cases d with
        | struct fs => simp only [shapeOk, Bool.and_eq_true] at h5; simp [TypeDesc.isRow, h5.1]
        | int k => cases ht : ti.ty <;> simp [shapeOk, ht] at h5 <;> rfl
        | bool => cases ht : ti.ty <;> simp [shapeOk, ht] at h5 <;> rfl
        | string => cases ht : ti.ty <;> simp [shapeOk, ht] at h5 <;> rfl
        | slice el => cases ht : ti.ty <;> simp [shapeOk, ht] at h5 <;> rfl
        | _ => simp [shapeOk] at h5
      · intro hag
        cases d with
        | struct fs => simp only [shapeOk, Bool.and_eq_true] at h5; exact ⟨fs, rfl, h5.2⟩
        | int k => cases ht : ti.ty <;> simp [shapeOk, ht, Ty.isAgg] at h5 hag
        | bool => cases ht : ti.ty <;> simp [shapeOk, ht, Ty.isAgg] at h5 hag
        | string => cases ht : ti.ty <;> simp [shapeOk, ht, Ty.isAgg] at h5 hag
        | slice el => cases ht : ti.ty <;> simp [shapeOk, ht, Ty.isAgg] at h5 hag
        | _ => simp [shapeOk] at h5
      · intro k hk
        cases d <;> simp [shapeOk, hk, Ty.isAgg] at h5
        rw [hd, kEq_eq h5]
      · intro hk
        cases d <;> simp [shapeOk, hk, Ty.isAgg] at h5
        exact hd
      · intro hk
        cases d <;> simp [shapeOk, hk, Ty.isAgg] at h5
        exact hd
      · intro t ht
        cases d <;> simp [shapeOk, ht, Ty.isAgg] at h5
        rename_i el
        obtain ⟨h6, h7⟩ := h5
        cases hf : find Γ ti.elem with
        | none => simp [hf] at h7
        | some tj =>
          simp only [hf] at h7
          cases hq : Ty.decEq tj.ty t with
          | isFalse _ => simp [hq] at h7
          | isTrue e =>
            simp only [hq] at h7
            refine ⟨by rw [hd, h6], ?_, tj, rfl, e⟩
            by_cases h0 : t.size = 0
            · rw [h0] at h7; simp at h7
            · omega
theorem tabOk_ok {P : Program} {Γ : Tab} : ∀ {l : List (Nat × TI)}, tabOk P Γ l = true → ∀ T ti, find l T = some ti → TyOk P Γ T ti
  | [], _, T, ti, h => by simp [find] at h
  | (U, tu) :: r, h, T, ti, hf => by
    simp only [tabOk, Bool.and_eq_true] at h
    rw [find_cons] at hf
    by_cases e : U = T
    · rw [if_pos e] at hf
      obtain rfl := Option.some.inj hf
      subst e
      exact tiOk_ok h.1
    · rw [if_neg e] at hf
      exact tabOk_ok h.2 T ti hf
theorem fieldsOk_get {P : Program} : ∀ {fs : List Field} {ds ss : List Nat}, fieldsOk P fs ds ss = true → ∀ i d, nth ds i = some d → ∃ f j, fs[i]? = some f ∧ f.offset = d ∧ P.info? f.type = some j ∧ nth ss i = some j.size ∧ j.size ≠ 0
  | [], [], [], _, i, d, h => by cases i <;> simp [nth] at h
  | f :: fs, e :: ds, s :: ss, h, 0, d, hd => by
    simp only [fieldsOk, Bool.and_eq_true] at h
    obtain ⟨⟨h1, h2⟩, h3⟩ := h
    simp only [nth, Option.some.injEq] at hd
    subst hd
    cases hj : P.info? f.type with
    | none => simp [hj] at h2
    | some j =>
      simp only [hj, Bool.and_eq_true, Bool.not_eq_true'] at h2
      have e2 := Nat.eq_of_beq_eq_true h2.1
      refine ⟨f, j, by simp, Nat.eq_of_beq_eq_true h1, hj, by simp [nth, e2], ?_⟩
      intro h0
      have h22 := h2.2
      rw [← e2, h0] at h22
      simp at h22
  | f :: fs, e :: ds, s :: ss, h, i + 1, d, hd => by
    simp only [fieldsOk, Bool.and_eq_true] at h
    obtain ⟨g, j, h1, h2, h3, h4, h5⟩ := fieldsOk_get h.2 i d (by simpa [nth] using hd)
    exact ⟨g, j, by simpa using h1, h2, h3, by simpa [nth] using h4, h5⟩
  | [], _ :: _, _, h, _, _, _ => by simp [fieldsOk] at h
  | [], [], _ :: _, h, _, _, _ => by simp [fieldsOk] at h
  | _ :: _, [], _, h, _, _, _ => by simp [fieldsOk] at h
  | _ :: _, _ :: _, [], h, _, _, _ => by simp [fieldsOk] at h
end Go.Ev
