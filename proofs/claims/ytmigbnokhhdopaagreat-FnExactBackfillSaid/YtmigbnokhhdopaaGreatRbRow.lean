import Derived.Test.YtmigbnokhhdopaaGreatRb
import Derived.Test.YtmigbnokhhdopaaGreatRbClose
import Derived.Test.YtmigbnokhhdopaaGreatRbSort
import Derived.Test.YtmigbnokhhdopaaGreatRbQ9
import Derived.Test.YtmigbnokhhdopaaGreatRbSm
import Derived.Test.YtmigbnokhhdopaaGreatRows
import Derived.Shelf.Lay
import Derived.HandedShaped
import Derived.OpenShut
import Derived.ProofKit
set_option linter.unusedVariables false
namespace Go.Ev.T1
open Go Go.Proofs Go.Shelf Go.RowKit
theorem pureRow {H : Type} (x : ATs.den [.val T26, .val T9, .val T27]) (ds : List (DataW H)) (h : RdAll [.val T26, .val T9, .val T27] x ds) : ∃ k,u84f k x.1 x.2.1 x.2.2.1 = some true:=by
 match ds,h with
 | [d0,d1,d2],⟨g0,g1,g2,_⟩ =>
  have h0:=rd_smT _ x.1 d0 g0
  have h1:=rd_smT _ x.2.1 d1 g1
  have h2:=rd_smT _ x.2.2.1 d2 g2
  have hl:=lm_u84f x.1 x.2.1 x.2.2.1
  rw [law_Backfill x.1 (smt_LTable h0) x.2.1 h1 x.2.2.1 ⟨h2.1,fun y hy=>smt_Pair (h2.2 y hy)⟩] at hl
  exact lm_some hl
theorem deep : Deep Tryz.prog Γ0:=deep_of (by kernel_rfl)
theorem tab_ok0 : TabOk Tryz.prog Γ0:=tab_of (by kernel_rfl)
theorem laidOut : laidOutB Tryz.prog = true:=by kernel_rfl
set_option maxRecDepth 100000 in
theorem lifted (os : Os) (started : os.Started) (H : Type) (enc : TypeId × Value → H) :
  ReturnsInHanded {} Tryz.checked os 3 .any (YtmigbnokhhdopaaGreat.Rows.fnExactBackfillSpec.pre6 enc Tryz.prog Tryz.f3 YtmigbnokhhdopaaGreat.Rows.fnExactBackfillRow.domain false) (YtmigbnokhhdopaaGreat.Rows.fnExactBackfillSpec.post enc Tryz.prog Tryz.f3 false true false false):=by
 refine returnsInHanded_of_change_shaped (C:=Tryz.checked) (by kernel_rfl) started (by kernel_rfl) Tryz.func3
  (ChangeSpec.witness6 (enc:=enc) (C:=Tryz.checked) false ⟨#[],#[.agg #[.int .i64 0, .string ⟨#[]⟩, .int .i64 0, .slice none 0 0, .slice none 0 0, .slice none 0 0], .string ⟨#[]⟩, .slice none 0 0],[]⟩ 8 (by kernel_rfl) (by kernel_rfl) (by kernel_rfl) (by kernel_rfl)) ?_
 intro W base args ds gs before hval hW hcnd _ hsh _
 refine law_true (P:=Tryz.prog) (Γ:=Γ0) tab_ok0 deep laidOut (ats:=[.val T26, .val T9, .val T27]) (fn:=fun k x=>u84f k x.1 x.2.1 x.2.2.1) ((ok_u84f (stops hsh)).1 rfl) (f:=Tryz.f3) (Tb:=4) (by kernel_rfl) (by kernel_rfl) (by rw [Tryz.params3]; exact ⟨⟨_,rfl,rfl⟩,⟨_,rfl,rfl⟩,⟨_,rfl,rfl⟩,trivial⟩) ?_ rfl hval hW ?_ ?_
 ·rw [Tryz.params3]
  intro T hT
  simp only [List.mem_cons,List.not_mem_nil,or_false] at hT
  rcases hT with rfl | rfl | rfl <;> exact ⟨by kernel_rfl,of_decide_eq_true (by kernel_rfl)⟩
 ·intro l hl
  rw [Tryz.params3] at hl
  match l,hl with
  | [d0,d1,d2],_=>rfl
 ·intro x hx
  exact pureRow x ds hx
theorem said : YtmigbnokhhdopaaGreat.Rows.FnExactBackfillSaid :=
 OpenClaim.holds_of_wide 3 Tryz.f3 rfl rfl rfl rfl rfl rfl rfl ⟨rfl,rfl,rfl,rfl,rfl⟩ rfl rfl rfl rfl rfl c1 Tryz.func3 c2 c3 c4 (fun os started H enc _=>lifted os started H enc)
end Go.Ev.T1
