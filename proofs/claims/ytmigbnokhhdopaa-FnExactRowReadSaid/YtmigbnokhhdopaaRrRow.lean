import Derived.Test.YtmigbnokhhdopaaRr
import Derived.Test.YtmigbnokhhdopaaRrClose
import Derived.Test.YtmigbnokhhdopaaRrSort
import Derived.Test.YtmigbnokhhdopaaRrQ9
import Derived.Test.YtmigbnokhhdopaaRrSm
import Derived.Test.YtmigbnokhhdopaaRows
import Derived.Shelf.Lay
import Derived.HandedShaped
import Derived.OpenShut
import Derived.ProofKit
set_option linter.unusedVariables false
namespace Go.Ev.T1
open Go Go.Proofs Go.Shelf Go.RowKit
theorem pureRow {H : Type} (x : ATs.den [.val T26, .val T28]) (ds : List (DataW H)) (h : RdAll [.val T26, .val T28] x ds) : ∃ k,u71f k x.1 x.2.1 = some true:=by
 match ds,h with
 | [d0,d1],⟨g0,g1,_⟩ =>
  have h0:=rd_smT _ x.1 d0 g0
  have h1:=rd_smT _ x.2.1 d1 g1
  have hl:=lm_u71f x.1 x.2.1
  rw [law_RowRead x.1 (smt_LTable h0) x.2.1 (smt_Pair h1)] at hl
  exact lm_some hl
theorem deep : Deep Try.prog Γ0:=deep_of (by kernel_rfl)
theorem tab_ok0 : TabOk Try.prog Γ0:=tab_of (by kernel_rfl)
theorem laidOut : laidOutB Try.prog = true:=by kernel_rfl
set_option maxRecDepth 100000 in
theorem lifted (os : Os) (started : os.Started) (H : Type) (enc : TypeId × Value → H) :
  ReturnsInHanded {} Try.checked os 3 .any (Ytmigbnokhhdopaa.Rows.fnExactRowReadSpec.pre6 enc Try.prog Try.f3 Ytmigbnokhhdopaa.Rows.fnExactRowReadRow.domain false) (Ytmigbnokhhdopaa.Rows.fnExactRowReadSpec.post enc Try.prog Try.f3 false true false false):=by
 refine returnsInHanded_of_change_shaped (C:=Try.checked) (by kernel_rfl) started (by kernel_rfl) Try.func3
  (ChangeSpec.witness6 (enc:=enc) (C:=Try.checked) false ⟨#[],#[.agg #[.int .i64 0, .string ⟨#[]⟩, .int .i64 0, .slice none 0 0, .slice none 0 0, .slice none 0 0], .agg #[.string ⟨#[]⟩, .string ⟨#[]⟩]],[]⟩ 8 (by kernel_rfl) (by kernel_rfl) (by kernel_rfl) (by kernel_rfl)) ?_
 intro W base args ds gs before hval hW hcnd _ hsh _
 refine law_true (P:=Try.prog) (Γ:=Γ0) tab_ok0 deep laidOut (ats:=[.val T26, .val T28]) (fn:=fun k x=>u71f k x.1 x.2.1) ((ok_u71f (stops hsh)).1 rfl) (f:=Try.f3) (Tb:=4) (by kernel_rfl) (by kernel_rfl) (by rw [Try.params3]; exact ⟨⟨_,rfl,rfl⟩,⟨_,rfl,rfl⟩,trivial⟩) ?_ rfl hval hW ?_ ?_
 ·rw [Try.params3]
  intro T hT
  simp only [List.mem_cons,List.not_mem_nil,or_false] at hT
  rcases hT with rfl | rfl <;> exact ⟨by kernel_rfl,of_decide_eq_true (by kernel_rfl)⟩
 ·intro l hl
  rw [Try.params3] at hl
  match l,hl with
  | [d0,d1],_=>rfl
 ·intro x hx
  exact pureRow x ds hx
theorem said : Ytmigbnokhhdopaa.Rows.FnExactRowReadSaid :=
 OpenClaim.holds_of_wide 3 Try.f3 rfl rfl rfl rfl rfl rfl rfl ⟨rfl,rfl,rfl,rfl,rfl⟩ rfl rfl rfl rfl rfl c1 Try.func3 c2 c3 c4 (fun os started H enc _=>lifted os started H enc)
end Go.Ev.T1
