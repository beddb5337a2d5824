/- The evaluator and its soundness, part 9. -/
import Derived.Test.YtfdmjgmipnohkaaAnEvH
import Derived.Carry
import Derived.ProofKit
import Derived.ChangeSame
section
/- A law that answers one bool, always true, and writes nothing that was there: from its contract to the row's post. -/
set_option linter.unusedSimpArgs false
set_option linter.unusedVariables false
namespace Go.Ev
open Go.RowKit Go.ChangeShapes Go.WideShapes

def RdAll {H : Type} : (ats : List AT) → ATs.den ats → List (DataW H) → Prop
  | [], _, l => l = []
  | .val t :: r, x, d :: l => Rd t x.1 d ∧ RdAll r x.2 l
  | _, _, _ => False

section
variable {H : Type} {enc : TypeId × Value → H} {P : Program} {W W' : World} {Γ : Tab}

theorem okWide_plain {r : Reach} {b : Nat} {T : Nat} {d : TypeDesc} {v : Value} (hd : P.underlying T = some d) (hp : d.isRow = false) (hk : match d with
    | .bool | .string | .int _ | .slice _ => True
    | _ => False) (h : Value.okWide P W r b T v) : v.cells = #[v] := by
  unfold Value.okWide at h
  rw [hd] at h
  cases d <;> simp only at hk h <;> first | exact hk.elim | skip
  all_goals
    unfold Cell.okWide at h
    rw [hd] at h
    cases v <;> simp only at h <;> first | rfl | (unfold Cell.ok at h; rw [hd] at h; simp only at h)

theorem asVal_of (hΓ : TabOk P Γ) (hD : Deep P Γ) {T : Nat} {ti : TI} (hf : find Γ T = some ti) {r : Reach} {b : Nat} {v : Value} (h : Value.okWide P W r b T v) : AsVal ti.ty v.cells.toList v := by
  have hT := hΓ T ti hf
  obtain ⟨d, hu, hrow, hst⟩ := hT.under
  unfold AsVal
  cases ha : ti.ty.isAgg with
  | true =>
    rcases hst ha with ⟨fs, rfl, _⟩ | ⟨_, _, rfl, _⟩
    case inr => have hdeep := hD T ti hf; unfold tiDeep at hdeep; rw [ha, hu] at hdeep; simp at hdeep
    obtain ⟨cs, e, _⟩ := okWide_struct hu h
    subst e
    simp [Value.cells]
  | false =>
    simp only
    have : v.cells = #[v] := by
      cases hty : ti.ty with
      | int k => exact okWide_plain (hT.int k hty) rfl trivial h
      | bool => exact okWide_plain (hT.bool hty) rfl trivial h
      | str => exact okWide_plain (hT.str hty) rfl trivial h
      | sl t => exact okWide_plain (hT.sl t (.inl hty)).1 rfl trivial h
      | pair a b => rw [hty] at ha; simp [Ty.isAgg] at ha
      | unit => rw [hty] at ha; simp [Ty.isAgg] at ha
      | any =>
        have hdeep := hD T ti hf
        unfold tiDeep at hdeep
        rw [hty] at hdeep
        simp [Ty.isAgg] at hdeep
      | osl U t =>
        have hdeep := hD T ti hf
        unfold tiDeep at hdeep
        rw [hty] at hdeep
        simp [Ty.isAgg] at hdeep
      | mp k v =>
        have hdeep := hD T ti hf
        unfold tiDeep at hdeep
        rw [hty] at hdeep
        simp [Ty.isAgg] at hdeep
      | omp k v =>
        have hdeep := hD T ti hf
        unfold tiDeep at hdeep
        rw [hty] at hdeep
        simp [Ty.isAgg] at hdeep
    rw [this]

theorem args_of (hΓ : TabOk P Γ) (hD : Deep P Γ) {base : Nat} {sp : Nat → Bool} {held : Bool} {b : Nat} {r : Reach} : ∀ (ts : List TypeId) (ats : List AT) (vs : List Value) (ds : List (DataW H)) (ps : List MemPlace),
    R2 (fun T a => ∃ ti, find Γ T = some ti ∧ a = .val ti.ty) ts ats → (∀ (j : Nat) t v, ts[j]? = some t → vs[j]? = some v → Value.okWide P W r b t v) → DataW.TrodAll enc P W base sp held ts vs ds ps →
    ∃ x : ATs.den ats, Args W (fun b => b < W.heap.size) ats x vs ∧ RdAll ats x ds
  | [], [], vs, ds, ps, _, _, h => by
    cases vs <;> cases ds <;> simp [DataW.TrodAll] at h
    exact ⟨(), rfl, rfl⟩
  | T :: ts, a :: ats, vs, ds, ps, ⟨⟨ti, hf, ha⟩, h2⟩, hval, h => by
    subst ha
    cases vs with
    | nil => simp [DataW.TrodAll] at h
    | cons v vs =>
      cases ds with
      | nil => simp [DataW.TrodAll] at h
      | cons d ds =>
        obtain ⟨p, q, ⟨fuel, h1⟩, h3, _⟩ := h
        obtain ⟨x, g1, g2⟩ := trod_val hΓ hD fuel T ti _ d p hf h1
        obtain ⟨y, g3, g4⟩ := args_of hΓ hD ts ats vs ds q h2 (fun j t u hj hu => hval (j + 1) t u (by simpa using hj) (by simpa using hu)) h3
        exact ⟨(x, y), ⟨⟨_, g1, asVal_of hΓ hD hf (hval 0 T v rfl rfl)⟩, g3⟩, g2, g4⟩
  | [], _ :: _, _, _, _, h, _, _ => by simp [R2] at h
  | _ :: _, [], _, _, _, h, _, _ => by simp [R2] at h

theorem trodAll_stays (hl : laidOutB P = true) : ∀ (ts : List TypeId) (vs : List Value) (ds : List (DataW H)) (ps : List MemPlace), (∀ T ∈ ts, P.readableRec T = true ∧ T < P.types.size) → DataW.TrodAll enc P W 0 (fun _ => true) true ts vs ds ps → Below W.heap.size W W' → (∀ x ∈ ps, x.block < W.heap.size) →
    DataW.TrodAll enc P W' 0 (fun b => decide (b < W.heap.size)) true ts vs ds ps
  | [], vs, ds, ps, _, h, _, _ => by
    cases vs <;> cases ds <;> simp [DataW.TrodAll] at h
    subst h
    exact rfl
  | T :: ts, vs, ds, ps, hr, h, hb, hlt => by
    cases vs with
    | nil => simp [DataW.TrodAll] at h
    | cons v vs =>
      cases ds with
      | nil => simp [DataW.TrodAll] at h
      | cons d ds =>
        obtain ⟨p, q, h1, h3, rfl⟩ := h
        obtain ⟨r1, r2⟩ := hr T List.mem_cons_self
        exact ⟨p, q, Below.trod hl r1 r2 h1 hb fun x hx => hlt x (List.mem_append_left _ hx), trodAll_stays hl ts vs ds q (fun T hT => hr T (List.mem_cons_of_mem _ hT)) h3 hb fun x hx => hlt x (List.mem_append_right _ hx), rfl⟩

theorem cell_lt {w : World} {a : Addr} {v : Value} (h : w.cell? a = some v) : a.block < w.heap.size := by
  unfold World.cell? at h
  split at h
  · rename_i hh
    exact heap_lt hh
  · simp at h
theorem trodAll_length {base : Nat} {sp : Nat → Bool} {held : Bool} : ∀ {ts : List TypeId} {vs : List Value} {ds : List (DataW H)} {ps : List MemPlace}, DataW.TrodAll enc P W base sp held ts vs ds ps → ds.length = ts.length
  | [], vs, ds, ps, h => by cases vs <;> cases ds <;> simp [DataW.TrodAll] at h; rfl
  | T :: ts, [], ds, ps, h => by simp [DataW.TrodAll] at h
  | T :: ts, v :: vs, [], ps, h => by simp [DataW.TrodAll] at h
  | T :: ts, v :: vs, d :: ds, ps, ⟨p, q, _, h, _⟩ => by simp [trodAll_length h]
/-- THE ROW's STEP. -/
theorem law_true (hΓ : TabOk P Γ) (hD : Deep P Γ) (hl : laidOutB P = true) {fid : Nat} {ats : List AT} {fn : Nat → ATs.den ats → Option Bool} (hc : ConOk P W fid ⟨ats, [.bool], fn⟩) {f : Func} {Tb : TypeId} (hrt : f.resultTypes = #[Tb]) (hb : P.underlying Tb = some .bool)
    (has : R2 (fun T a => ∃ ti, find Γ T = some ti ∧ a = .val ti.ty) f.params.toList ats) (hread : ∀ T ∈ f.params.toList, P.readableRec T = true ∧ T < P.types.size) {s : ChangeSpec} (hv : s.vars = []) {args : Array Value} {ds gs : List (DataW H)} {before : List MemPlace} {base : Nat} {r : Reach}
    (hval : ∀ (j : Nat) t v, f.params[j]? = some t → args[j]? = some v → Value.okWide P W r base t v) {apart fresh handsOn : Bool} (hW : DataW.Whole enc P f.params.toList s.vars apart W args.toList ds gs before)
    (hsp : ∀ l : List (DataW H), l.length = f.params.toList.length → s.fn H l = { results := [.lit (.bool true)], args := l }) (hpure : ∀ x : ATs.den ats, RdAll ats x ds → ∃ k, fn k x = some true) :
    Calls P fid args W fun e W' => ∃ v, e = .returned v ∧ s.post enc P f apart fresh handsOn false W args v W' := by
  have hlt := hW.lt
  have hW' := hW
  obtain ⟨p, q, hA, hV, hpq, hfz, hnd⟩ := hW
  rw [hv] at hV
  obtain ⟨rfl, rfl⟩ := trodVars_none hV
  rw [List.append_nil] at hpq
  subst hpq
  have hsp := hsp ds (trodAll_length hA)
  have e0 : ds ++ [] = ds := List.append_nil ds
  obtain ⟨x, hx, hrd⟩ := args_of hΓ hD f.params.toList ats args.toList ds _ has (fun j t v hj hu => hval j t v (by simpa using hj) (by simpa using hu)) hA
  obtain ⟨k, hk⟩ := hpure x hrd
  have hcall := hc k x true W (fun b => b < W.heap.size) args.toList (Below.refl _ _) (fun _ h => h) hk hx
  have hargs : args.toList.toArray = args := by simp
  rw [hargs] at hcall
  refine Calls.mono hcall ?_
  intro e W' ⟨l, he, hbel, hres⟩
  obtain ⟨v, hl1, cs, hv1, hv2⟩ := hres
  subst hl1
  have hvb : v = .bool true := by
    simp only [Val] at hv1
    simp only [AsVal, Ty.isAgg] at hv2
    subst hv2
    simpa using hv1
  subst hvb
  refine ⟨_, he, ds, [], before, [], before, [], hW', ?_, ?_, ?_, hbel.frame _, fun h => absurd h (by simp)⟩
  · rw [e0, hsp, hrt]
    exact trodAll_cons_mk (shut_bool hb _) trodAll_mk0
  · rw [e0, hsp]
    exact trodAll_stays hl _ _ _ _ hread hA hbel fun y hy => by simpa using hlt y hy
  · rw [e0, hsp, hv]
    exact rfl
end
end Go.Ev
end

section
/- What a reading bounds. -/
set_option linter.unusedSimpArgs false
set_option linter.unusedVariables false
namespace Go.Ev
def SmT (n : Nat) : (t : Ty) → t.den → Prop
  | .int k, v => Rng k v
  | .bool, _ => True
  | .str, s => s.length ≤ n
  | .sl t, xs => xs.length ≤ n ∧ ∀ x ∈ xs, SmT n t x
  | .unit, _ => True
  | .any, _ => True
  | .osl _ _, _ => True
  | .mp _ _, _ => True
  | .omp _ _, _ => True
  | .pair a b, x => SmT n a x.1 ∧ SmT n b x.2
theorem rd_smT {H : Type} : ∀ (t : Ty) (x : t.den) (d : DataW H), Rd t x d → SmT maxLen t x
  | .int k, v, d, h => h.2
  | .bool, _, _, _ => trivial
  | .str, s, d, h => h.2
  | .unit, _, _, _ => trivial
  | .any, _, _, _ => trivial
  | .osl _ _, _, _, _ => trivial
  | .mp _ _, _, _, _ => trivial
  | .omp _ _, _, _, _ => trivial
  | .pair a b, x, d, ⟨p, ps, _, h1, h2⟩ => ⟨rd_smT a x.1 p h1, rd_smT b x.2 _ h2⟩
  | .sl t, xs, d, h => by
    rcases h with ⟨_, rfl⟩ | ⟨es, sp, _, hl, hm, he⟩
    · exact ⟨Nat.zero_le _, fun x hx => by simp at hx⟩
    · refine ⟨hm, fun x hx => ?_⟩
      obtain ⟨i, hi, rfl⟩ := List.mem_iff_getElem.1 hx
      have h1 : es[i]? = some es[i] := List.getElem?_eq_getElem (by omega)
      have := rd_smT t _ _ (he i _ h1)
      rwa [show xs.getD i t.zero = xs[i] by simp [List.getD_eq_getElem?_getD, hi]] at this
end Go.Ev
end
