/- The row. -/
import Derived.Test.YticlnmiakaelkaaCo
import Derived.Test.YticlnmiakaelkaaCoClose
import Derived.Test.YticlnmiakaelkaaCoSort
import Derived.Test.YticlnmiakaelkaaCoQ9
import Derived.Test.YticlnmiakaelkaaCoSm
import Derived.Test.YticlnmiakaelkaaRows
import Derived.Shelf.Lay
import Derived.HandedShaped
import Derived.OpenShut
import Derived.ProofKit
set_option linter.unusedVariables false
namespace Go.Ev.T1
open Go Go.Proofs Go.Shelf Go.RowKit

theorem pureRow {H : Type} (x : ATs.den [.val T54, .val T52]) (ds : List (DataW H)) (h : RdAll [.val T54, .val T52] x ds) : ∃ k, laws_FnExactStoreCollect k x.1 x.2.1 = some true := by
  match ds, h with
  | [d0, d1], ⟨g0, g1, _⟩ =>
    have h0 := rd_smT _ x.1 d0 g0
    have h1 := rd_smT _ x.2.1 d1 g1
    have hl := lm_laws_FnExactStoreCollect x.1 x.2.1
    rw [law_StoreCollect x.1 (smt_LStore h0) x.2.1 (smt_Time h1)] at hl
    exact lm_some hl
theorem deep : Deep Try.prog Γ0 := deep_of (by kernel_rfl)
theorem tab_ok0 : TabOk Try.prog Γ0 := tab_of (by kernel_rfl)
theorem laidOut : laidOutB Try.prog = true := by kernel_rfl
set_option maxRecDepth 100000 in
theorem lifted (os : Os) (started : os.Started) (H : Type) (enc : TypeId × Value → H) :
    ReturnsInHanded {} Try.checked os 12 .any (Yticlnmiakaelkaa.Rows.fnExactStoreCollectSpec.pre6 enc Try.prog Try.f12 Yticlnmiakaelkaa.Rows.fnExactStoreCollectRow.domain false) (Yticlnmiakaelkaa.Rows.fnExactStoreCollectSpec.post enc Try.prog Try.f12 false true false false) := by
  refine returnsInHanded_of_change_shaped (C := Try.checked) (by kernel_rfl) started (by kernel_rfl) Try.func12
    (ChangeSpec.witness6 (enc := enc) (C := Try.checked) false ⟨#[], #[.agg #[.slice none 0 0, .slice none 0 0, .int .i64 0, .int .i64 0], .agg #[.int .i64 0, .int .i64 0]], []⟩ 8 (by kernel_rfl) (by kernel_rfl) (by kernel_rfl) (by kernel_rfl)) ?_
  intro W base args ds gs before hval hW hcnd _ hsh _
  refine law_true (P := Try.prog) (Γ := Γ0) tab_ok0 deep laidOut (ats := [.val T54, .val T52]) (fn := fun k x => laws_FnExactStoreCollect k x.1 x.2.1) ((ok_laws_FnExactStoreCollect stops).1 rfl) (f := Try.f12) (Tb := 4) (by kernel_rfl) (by kernel_rfl) (by rw [Try.params12]; exact ⟨⟨_, rfl, rfl⟩, ⟨_, rfl, rfl⟩, trivial⟩) ?_ rfl hval hW ?_ ?_
  · rw [Try.params12]
    intro T hT
    simp only [List.mem_cons, List.not_mem_nil, or_false] at hT
    rcases hT with rfl | rfl <;> exact ⟨by kernel_rfl, of_decide_eq_true (by kernel_rfl)⟩
  · intro l hl
    rw [Try.params12] at hl
    match l, hl with
    | [d0, d1], _ => rfl
  · intro x hx
    exact pureRow x ds hx
theorem said : Yticlnmiakaelkaa.Rows.FnExactStoreCollectSaid :=
  OpenClaim.holds_of_wide 12 Try.f12 rfl rfl rfl rfl rfl rfl rfl ⟨rfl, rfl, rfl, rfl, rfl⟩ rfl rfl rfl rfl rfl c1 Try.func12 c2 c3 c4 (fun os started H enc _ => lifted os started H enc)
end Go.Ev.T1
