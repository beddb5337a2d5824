import Derived.Test.YtmigbnokhhdopaaGreatRp
import Derived.Test.YtmigbnokhhdopaaGreatRpClose
import Derived.Test.YtmigbnokhhdopaaGreatRpSort
import Derived.Test.YtmigbnokhhdopaaGreatRpQ9
import Derived.Test.YtmigbnokhhdopaaGreatRpSm
import Derived.Test.YtmigbnokhhdopaaGreatRows
import Derived.Shelf.Lay
import Derived.HandedShaped
import Derived.OpenShut
import Derived.ProofKit
set_option linter.unusedVariables false
namespace Go.Ev.T1
open Go Go.Proofs Go.Shelf Go.RowKit
theorem pureRow {H : Type} (x : ATs.den [.val T26, .val T44]) (ds : List (DataW H)) (h : RdAll [.val T26, .val T44] x ds) : ∃ k, u75f k x.1 x.2.1 = some true := by
 match ds, h with
 | [d0, d1], ⟨g0, g1, _⟩ =>
  have h0 := rd_smT _ x.1 d0 g0
  have h1 := rd_smT _ x.2.1 d1 g1
  have hl := lm_u75f x.1 x.2.1
  rw [law_RowPairs x.1 (smt_LTable h0) x.2.1 ⟨h1.1, fun y hy => smt_Value (h1.2 y hy)⟩] at hl
  exact lm_some hl
theorem deep : Deep Tryz.prog Γ0 := deep_of (by kernel_rfl)
theorem tab_ok0 : TabOk Tryz.prog Γ0 := tab_of (by kernel_rfl)
theorem laidOut : laidOutB Tryz.prog = true := by kernel_rfl
set_option maxRecDepth 100000 in
theorem lifted (os : Os) (started : os.Started) (H : Type) (enc : TypeId × Value → H) :
  ReturnsInHanded {} Tryz.checked os 4 .any (YtmigbnokhhdopaaGreat.Rows.fnExactRowPairsSpec.pre6 enc Tryz.prog Tryz.f4 YtmigbnokhhdopaaGreat.Rows.fnExactRowPairsRow.domain false) (YtmigbnokhhdopaaGreat.Rows.fnExactRowPairsSpec.post enc Tryz.prog Tryz.f4 false true false false) := by
 refine returnsInHanded_of_change_shaped (C := Tryz.checked) (by kernel_rfl) started (by kernel_rfl) Tryz.func4
  (ChangeSpec.witness6 (enc := enc) (C := Tryz.checked) false ⟨#[], #[.agg #[.int .i64 0, .string ⟨#[]⟩, .int .i64 0, .slice none 0 0, .slice none 0 0, .slice none 0 0], .slice none 0 0], []⟩ 8 (by kernel_rfl) (by kernel_rfl) (by kernel_rfl) (by kernel_rfl)) ?_
 intro W base args ds gs before hval hW hcnd _ hsh _
 refine law_true (P := Tryz.prog) (Γ := Γ0) tab_ok0 deep laidOut (ats := [.val T26, .val T44]) (fn := fun k x => u75f k x.1 x.2.1) ((ok_u75f (stops hsh)).1 rfl) (f := Tryz.f4) (Tb := 4) (by kernel_rfl) (by kernel_rfl) (by rw [Tryz.params4]; exact ⟨⟨_, rfl, rfl⟩, ⟨_, rfl, rfl⟩, trivial⟩) ?_ rfl hval hW ?_ ?_
 ·rw [Tryz.params4]
  intro T hT
  simp only [List.mem_cons, List.not_mem_nil, or_false] at hT
  rcases hT with rfl | rfl <;> exact ⟨by kernel_rfl, of_decide_eq_true (by kernel_rfl)⟩
 ·intro l hl
  rw [Tryz.params4] at hl
  match l, hl with
  | [d0, d1], _ => rfl
 ·intro x hx
  exact pureRow x ds hx
theorem said : YtmigbnokhhdopaaGreat.Rows.FnExactRowPairsSaid :=
 OpenClaim.holds_of_wide 4 Tryz.f4 rfl rfl rfl rfl rfl rfl rfl ⟨rfl, rfl, rfl, rfl, rfl⟩ rfl rfl rfl rfl rfl c1 Tryz.func4 c2 c3 c4 (fun os started H enc _ => lifted os started H enc)
end Go.Ev.T1
