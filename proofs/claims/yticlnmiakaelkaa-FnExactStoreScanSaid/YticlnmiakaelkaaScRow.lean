/- The row. -/
import Derived.Test.YticlnmiakaelkaaSc
import Derived.Test.YticlnmiakaelkaaScClose
import Derived.Test.YticlnmiakaelkaaScSort
import Derived.Test.YticlnmiakaelkaaScQ9
import Derived.Test.YticlnmiakaelkaaScSm
import Derived.Test.YticlnmiakaelkaaRows
import Derived.Shelf.Lay
import Derived.HandedShaped
import Derived.OpenShut
import Derived.ProofKit
set_option linter.unusedVariables false
namespace Go.Ev.T1
open Go Go.Proofs Go.Shelf Go.RowKit

theorem pureRow {H : Type} (x : ATs.den [.val T54, .val T9, .val T9, .val T52, .val T3]) (ds : List (DataW H)) (h : RdAll [.val T54, .val T9, .val T9, .val T52, .val T3] x ds) : ∃ k, laws_FnExactStoreScan k x.1 x.2.1 x.2.2.1 x.2.2.2.1 x.2.2.2.2.1 = some true := by
  match ds, h with
  | [d0, d1, d2, d3, d4], ⟨g0, g1, g2, g3, g4, _⟩ =>
    have h0 := rd_smT _ x.1 d0 g0
    have h1 := rd_smT _ x.2.1 d1 g1
    have h2 := rd_smT _ x.2.2.1 d2 g2
    have h3 := rd_smT _ x.2.2.2.1 d3 g3
    have h4 := rd_smT _ x.2.2.2.2.1 d4 g4
    have hl := lm_laws_FnExactStoreScan x.1 x.2.1 x.2.2.1 x.2.2.2.1 x.2.2.2.2.1
    rw [law_StoreScan x.1 (smt_LStore h0) x.2.1 x.2.2.1 x.2.2.2.1 (smt_Time h3) x.2.2.2.2.1] at hl
    exact lm_some hl
theorem deep : Deep Try.prog Γ0 := deep_of (by kernel_rfl)
theorem tab_ok0 : TabOk Try.prog Γ0 := tab_of (by kernel_rfl)
theorem laidOut : laidOutB Try.prog = true := by kernel_rfl
set_option maxRecDepth 100000 in
theorem lifted (os : Os) (started : os.Started) (H : Type) (enc : TypeId × Value → H) :
    ReturnsInHanded {} Try.checked os 7 .any (Yticlnmiakaelkaa.Rows.fnExactStoreScanSpec.pre6 enc Try.prog Try.f7 Yticlnmiakaelkaa.Rows.fnExactStoreScanRow.domain false) (Yticlnmiakaelkaa.Rows.fnExactStoreScanSpec.post enc Try.prog Try.f7 false true false false) := by
  refine returnsInHanded_of_change_shaped (C := Try.checked) (by kernel_rfl) started (by kernel_rfl) Try.func7
    (ChangeSpec.witness6 (enc := enc) (C := Try.checked) false ⟨#[], #[.agg #[.slice none 0 0, .slice none 0 0, .int .i64 0, .int .i64 0], .string ⟨#[]⟩, .string ⟨#[]⟩, .agg #[.int .i64 0, .int .i64 0], .int .i64 0], []⟩ 8 (by kernel_rfl) (by kernel_rfl) (by kernel_rfl) (by kernel_rfl)) ?_
  intro W base args ds gs before hval hW hcnd _ hsh _
  refine law_true (P := Try.prog) (Γ := Γ0) tab_ok0 deep laidOut (ats := [.val T54, .val T9, .val T9, .val T52, .val T3]) (fn := fun k x => laws_FnExactStoreScan k x.1 x.2.1 x.2.2.1 x.2.2.2.1 x.2.2.2.2.1) ((ok_laws_FnExactStoreScan stops).1 rfl) (f := Try.f7) (Tb := 4) (by kernel_rfl) (by kernel_rfl) (by rw [Try.params7]; exact ⟨⟨_, rfl, rfl⟩, ⟨_, rfl, rfl⟩, ⟨_, rfl, rfl⟩, ⟨_, rfl, rfl⟩, ⟨_, rfl, rfl⟩, trivial⟩) ?_ rfl hval hW ?_ ?_
  · rw [Try.params7]
    intro T hT
    simp only [List.mem_cons, List.not_mem_nil, or_false] at hT
    rcases hT with rfl | rfl | rfl | rfl | rfl <;> exact ⟨by kernel_rfl, of_decide_eq_true (by kernel_rfl)⟩
  · intro l hl
    rw [Try.params7] at hl
    match l, hl with
    | [d0, d1, d2, d3, d4], _ => rfl
  · intro x hx
    exact pureRow x ds hx
theorem said : Yticlnmiakaelkaa.Rows.FnExactStoreScanSaid :=
  OpenClaim.holds_of_wide 7 Try.f7 rfl rfl rfl rfl rfl rfl rfl ⟨rfl, rfl, rfl, rfl, rfl⟩ rfl rfl rfl rfl rfl c1 Try.func7 c2 c3 c4 (fun os started H enc _ => lifted os started H enc)
end Go.Ev.T1
