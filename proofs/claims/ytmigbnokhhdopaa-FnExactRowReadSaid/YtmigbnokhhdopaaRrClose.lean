import Derived.Test.YtmigbnokhhdopaaRows
import Derived.Test.YtmigbnokhhdopaaChecked
import Derived.JoinedOf
import Derived.KernelRfl
import Derived.ProofKit
import Derived.OpenShut
namespace Go.Ev.T1
open Go Go.Proofs Go.Proofs.Ytmigbnokhhdopaa
theorem c1 : Try.pinned.checked.prog.funcNamed Ytmigbnokhhdopaa.Rows.fnExactRowReadRow.func = some 3:=by kernel_rfl
theorem c2 : joinedFacts Try.pinned.checked.prog 3 Try.f3 Ytmigbnokhhdopaa.Rows.fnExactRowReadSpec Ytmigbnokhhdopaa.Rows.fnExactRowReadRow = true:=by kernel_rfl
theorem c3 : Try.f3.isInstance Try.pinned.checked.prog Ytmigbnokhhdopaa.Rows.fnExactRowReadRow.origin Ytmigbnokhhdopaa.Rows.fnExactRowReadRow.targs:=of_decide_eq_true (by kernel_rfl)
theorem c4 : Try.f3.isWrapper Try.pinned.checked.prog Ytmigbnokhhdopaa.Rows.fnExactRowReadRow.wrapper Ytmigbnokhhdopaa.Rows.fnExactRowReadRow.mainSum:=by unfold Func.isWrapper; first | (rw [if_pos (by decide +kernel)]; kernel_rfl) | (rw [if_neg (by decide +kernel)]; exact ⟨rfl,rfl⟩)
end Go.Ev.T1
