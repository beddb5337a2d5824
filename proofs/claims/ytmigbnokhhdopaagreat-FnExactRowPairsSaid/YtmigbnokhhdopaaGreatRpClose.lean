import Derived.Test.YtmigbnokhhdopaaGreatRows
import Derived.Test.YtmigbnokhhdopaaGreatChecked
import Derived.JoinedOf
import Derived.KernelRfl
import Derived.ProofKit
import Derived.OpenShut
namespace Go.Ev.T1
open Go Go.Proofs Go.Proofs.YtmigbnokhhdopaaGreat
theorem c1 : Tryz.pinned.checked.prog.funcNamed YtmigbnokhhdopaaGreat.Rows.fnExactRowPairsRow.func = some 4 := by kernel_rfl
theorem c2 : joinedFacts Tryz.pinned.checked.prog 4 Tryz.f4 YtmigbnokhhdopaaGreat.Rows.fnExactRowPairsSpec YtmigbnokhhdopaaGreat.Rows.fnExactRowPairsRow = true := by kernel_rfl
theorem c3 : Tryz.f4.isInstance Tryz.pinned.checked.prog YtmigbnokhhdopaaGreat.Rows.fnExactRowPairsRow.origin YtmigbnokhhdopaaGreat.Rows.fnExactRowPairsRow.targs := of_decide_eq_true (by kernel_rfl)
theorem c4 : Tryz.f4.isWrapper Tryz.pinned.checked.prog YtmigbnokhhdopaaGreat.Rows.fnExactRowPairsRow.wrapper YtmigbnokhhdopaaGreat.Rows.fnExactRowPairsRow.mainSum := by unfold Func.isWrapper; first | (rw [if_pos (by decide +kernel)]; kernel_rfl) | (rw [if_neg (by decide +kernel)]; exact ⟨rfl, rfl⟩)
end Go.Ev.T1
