/- The row. -/
import Derived.Test.YtlgmddbndbobfaaShelf
import Derived.Test.YtlgmddbndbobfaaFlt
import Derived.Test.YtlgmddbndbobfaaFltClose
import Derived.Test.YtlgmddbndbobfaaFltQ4
import Derived.Test.YtlgmddbndbobfaaFltSm
import Derived.Test.YtlgmddbndbobfaaRows
import Derived.Shelf.Lay
import Derived.Shelf.Strings.Search3
import Derived.Shelf.LaysM
import Derived.Shelf.Strings.Shaped
import Derived.HandedShaped
import Derived.OpenShut
import Derived.ProofKit
set_option linter.unusedVariables false
namespace Go.Ev.T1
open Go Go.Proofs Go.Shelf Go.RowKit
theorem contains_ok {W : World} (h : W.ShapedOpen Try.prog) : ConOk Try.prog W 249 c_strings_Contains := by
  obtain ⟨m, hm⟩ := Try.laysM144.s1_3 W h
  intro k x r w G args hb hG hr hargs
  match args, hargs with
  | [u, v], ⟨⟨cs, ⟨s, e1, e2⟩, ha⟩, ⟨cs', ⟨t, e3, e4⟩, ha'⟩, _⟩ =>
    simp only [AsVal, Ty.isAgg] at ha ha'
    subst ha; subst ha'
    simp only [List.cons.injEq, and_true] at e1 e3
    subst e1; subst e3
    have hr' : chk (Nat.blt x.1.length 4294967281) (some (Go.Lib.contains x.1 x.2.1)) = some r := hr
    obtain ⟨h1, h2⟩ := chk_some hr'
    obtain rfl := Option.some.inj h2
    rw [← e2] at h1
    have hs : s.size < 4294967281 := by
      rw [ba_size]
      exact Nat.le_of_ble_eq_true h1
    have hlt := cell_lt hm
    have hm' : w.cell? _ = some (.int .i64 m) := (hb.cell (p := ⟨_, 0, none⟩) hlt).trans hm
    refine Calls.mono (Any.strings_Contains { Try.laysM144 with } s t m w hs hm') ?_
    rintro e w' ⟨rfl, rfl⟩
    rw [← e2, ← e4]
    exact ⟨[.bool _], rfl, .refl _ _, .bool _, rfl, [.bool _], rfl, rfl⟩
theorem stops {W : World} (h : W.ShapedOpen Try.prog) : Stops W := ⟨contains_ok h, enters' Try.func249 (by kernel_rfl)⟩

theorem pureRow {H : Type} (x : ATs.den [.val T55, .val T68]) (ds : List (DataW H)) (h : RdAll [.val T55, .val T68] x ds) : ∃ k, laws_FnExactFlatOK k x.1 x.2.1 = some true := by
  match ds, h with
  | [d0, d1], ⟨g0, g1, _⟩ =>
    have h0 := rd_smT _ x.1 d0 g0
    have h1 := rd_smT _ x.2.1 d1 g1
    have hl := lm_laws_FnExactFlatOK x.1 x.2.1
    rw [law_FlatOK x.1 ⟨h0.1, fun y hy => smt_LTable (h0.2 y hy)⟩ x.2.1 (smt_LFlat h1)] at hl
    exact lm_some hl
theorem deep : Deep Try.prog Γ := deep_of (by kernel_rfl)
theorem laidOut : laidOutB Try.prog = true := by kernel_rfl
set_option maxRecDepth 100000 in
theorem lifted (os : Os) (started : os.Started) (H : Type) (enc : TypeId × Value → H) :
    ReturnsInHanded {} Try.checked os 6 .any (Ytlgmddbndbobfaa.Rows.fnExactFlatOKSpec.pre6 enc Try.prog Try.f6 Ytlgmddbndbobfaa.Rows.fnExactFlatOKRow.domain false) (Ytlgmddbndbobfaa.Rows.fnExactFlatOKSpec.post enc Try.prog Try.f6 false true false false) := by
  refine returnsInHanded_of_change_shaped (C := Try.checked) (by kernel_rfl) started (by kernel_rfl) Try.func6
    (ChangeSpec.witness6 (enc := enc) (C := Try.checked) false ⟨#[], #[.slice none 0 0, .agg #[.slice none 0 0, .slice none 0 0, .slice none 0 0, .slice none 0 0, .bool false]], []⟩ 8 (by kernel_rfl) (by kernel_rfl) (by kernel_rfl) (by kernel_rfl)) ?_
  intro W base args ds gs before hval hW hcnd _ hsh _
  refine law_true (P := Try.prog) (Γ := Γ) tab_ok deep laidOut (ats := [.val T55, .val T68]) (fn := fun k x => laws_FnExactFlatOK k x.1 x.2.1) (ok_laws_FnExactFlatOK (stops hsh)) (f := Try.f6) (Tb := 4) (by kernel_rfl) (by kernel_rfl) (by rw [Try.params6]; exact ⟨⟨_, rfl, rfl⟩, ⟨_, rfl, rfl⟩, trivial⟩) ?_ rfl hval hW ?_ ?_
  · rw [Try.params6]
    intro T hT
    simp only [List.mem_cons, List.not_mem_nil, or_false] at hT
    rcases hT with rfl | rfl <;> exact ⟨by kernel_rfl, of_decide_eq_true (by kernel_rfl)⟩
  · intro l hl
    rw [Try.params6] at hl
    match l, hl with
    | [d0, d1], _ => rfl
  · intro x hx
    exact pureRow x ds hx
theorem said : Ytlgmddbndbobfaa.Rows.FnExactFlatOKSaid :=
  OpenClaim.holds_of_wide 6 Try.f6 rfl rfl rfl rfl rfl rfl rfl ⟨rfl, rfl, rfl, rfl, rfl⟩ rfl rfl rfl rfl rfl c1 Try.func6 c2 c3 c4 (fun os started H enc _ => lifted os started H enc)
end Go.Ev.T1
