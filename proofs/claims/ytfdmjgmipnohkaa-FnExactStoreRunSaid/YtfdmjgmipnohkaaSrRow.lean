import Derived.Test.YtfdmjgmipnohkaaSr
import Derived.Test.YtfdmjgmipnohkaaSrClose
import Derived.Test.YtfdmjgmipnohkaaSrSort
import Derived.Test.YtfdmjgmipnohkaaSrQB
import Derived.Test.YtfdmjgmipnohkaaSrSm
import Derived.Test.YtfdmjgmipnohkaaRows
import Derived.Shelf.Lay
import Derived.HandedShaped
import Derived.OpenShut
import Derived.ProofKit
set_option linter.unusedVariables false
namespace Go.Ev.T1
open Go Go.Proofs Go.Shelf Go.RowKit
theorem pureRow {H : Type} (x : ATs.den [.val T37]) (ds : List (DataW H)) (h : RdAll [.val T37] x ds) : ∃ k, u77f k x.1 = some true := by
 match ds, h with
 | [d0], ⟨g0, _⟩ =>
  have h0 := rd_smT _ x.1 d0 g0
  have hl := lm_u77f x.1
  rw [law_StoreRun x.1 ⟨h0.1, fun y hy => smt_LStoreOp (h0.2 y hy)⟩] at hl
  exact lm_some hl
theorem deep : Deep Try.prog Γ0 := deep_of (by kernel_rfl)
theorem tab_ok0 : TabOk Try.prog Γ0 := tab_of (by kernel_rfl)
theorem laidOut : laidOutB Try.prog = true := by kernel_rfl
set_option maxRecDepth 100000 in
theorem lifted (os : Os) (started : os.Started) (H : Type) (enc : TypeId × Value → H) :
  ReturnsInHanded {} Try.checked os 4 .any (Ytfdmjgmipnohkaa.Rows.fnExactStoreRunSpec.pre6 enc Try.prog Try.f4 Ytfdmjgmipnohkaa.Rows.fnExactStoreRunRow.domain false) (Ytfdmjgmipnohkaa.Rows.fnExactStoreRunSpec.post enc Try.prog Try.f4 false true false false) := by
 refine returnsInHanded_of_change_shaped (C := Try.checked) (by kernel_rfl) started (by kernel_rfl) Try.func4
  (ChangeSpec.witness6 (enc := enc) (C := Try.checked) false ⟨#[], #[.slice none 0 0], []⟩ 8 (by kernel_rfl) (by kernel_rfl) (by kernel_rfl) (by kernel_rfl)) ?_
 intro W base args ds gs before hval hW hcnd _ hsh _
 refine law_true (P := Try.prog) (Γ := Γ0) tab_ok0 deep laidOut (ats := [.val T37]) (fn := fun k x => u77f k x.1) ((ok_u77f stops).1 rfl) (f := Try.f4) (Tb := 4) (by kernel_rfl) (by kernel_rfl) (by rw [Try.params4]; exact ⟨⟨_, rfl, rfl⟩, trivial⟩) ?_ rfl hval hW ?_ ?_
 ·rw [Try.params4]
  intro T hT
  simp only [List.mem_cons, List.not_mem_nil, or_false] at hT
  rcases hT with rfl <;> exact ⟨by kernel_rfl, of_decide_eq_true (by kernel_rfl)⟩
 ·intro l hl
  rw [Try.params4] at hl
  match l, hl with
  | [d0], _ => rfl
 ·intro x hx
  exact pureRow x ds hx
theorem said : Ytfdmjgmipnohkaa.Rows.FnExactStoreRunSaid :=
 OpenClaim.holds_of_wide 4 Try.f4 rfl rfl rfl rfl rfl rfl rfl ⟨rfl, rfl, rfl, rfl, rfl⟩ rfl rfl rfl rfl rfl c1 Try.func4 c2 c3 c4 (fun os started H enc _ => lifted os started H enc)
end Go.Ev.T1
