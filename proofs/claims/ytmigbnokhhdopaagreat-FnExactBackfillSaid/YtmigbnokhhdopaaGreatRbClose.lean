import Derived.Test.YtmigbnokhhdopaaGreatRows
import Derived.Test.YtmigbnokhhdopaaGreatChecked
import Derived.JoinedOf
import Derived.KernelRfl
import Derived.ProofKit
import Derived.OpenShut
namespace Go.Ev.T1
open Go Go.Proofs Go.Proofs.YtmigbnokhhdopaaGreat
theorem c1 : Tryz.pinned.checked.prog.funcNamed YtmigbnokhhdopaaGreat.Rows.fnExactBackfillRow.func = some 3:=by kernel_rfl
theorem c2 : joinedFacts Tryz.pinned.checked.prog 3 Tryz.f3 YtmigbnokhhdopaaGreat.Rows.fnExactBackfillSpec YtmigbnokhhdopaaGreat.Rows.fnExactBackfillRow = true:=by kernel_rfl
theorem c3 : Tryz.f3.isInstance Tryz.pinned.checked.prog YtmigbnokhhdopaaGreat.Rows.fnExactBackfillRow.origin YtmigbnokhhdopaaGreat.Rows.fnExactBackfillRow.targs:=of_decide_eq_true (by kernel_rfl)
theorem c4 : Tryz.f3.isWrapper Tryz.pinned.checked.prog YtmigbnokhhdopaaGreat.Rows.fnExactBackfillRow.wrapper YtmigbnokhhdopaaGreat.Rows.fnExactBackfillRow.mainSum:=by unfold Func.isWrapper; first | (rw [if_pos (by decide +kernel)]; kernel_rfl) | (rw [if_neg (by decide +kernel)]; exact ⟨rfl,rfl⟩)
end Go.Ev.T1
