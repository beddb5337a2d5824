/- The closing facts of a row. -/
import Derived.Test.YticlnmiakaelkaaRows
import Derived.Test.YticlnmiakaelkaaChecked
import Derived.JoinedOf
import Derived.KernelRfl
import Derived.ProofKit
import Derived.OpenShut
namespace Go.Ev.T1
open Go Go.Proofs Go.Proofs.Yticlnmiakaelkaa
theorem c1 : Try.pinned.checked.prog.funcNamed Yticlnmiakaelkaa.Rows.fnExactStoreCollectRow.func = some 12 := by kernel_rfl
theorem c2 : joinedFacts Try.pinned.checked.prog 12 Try.f12 Yticlnmiakaelkaa.Rows.fnExactStoreCollectSpec Yticlnmiakaelkaa.Rows.fnExactStoreCollectRow = true := by kernel_rfl
theorem c3 : Try.f12.isInstance Try.pinned.checked.prog Yticlnmiakaelkaa.Rows.fnExactStoreCollectRow.origin Yticlnmiakaelkaa.Rows.fnExactStoreCollectRow.targs := of_decide_eq_true (by kernel_rfl)
theorem c4 : Try.f12.isWrapper Try.pinned.checked.prog Yticlnmiakaelkaa.Rows.fnExactStoreCollectRow.wrapper Yticlnmiakaelkaa.Rows.fnExactStoreCollectRow.mainSum := by unfold Func.isWrapper; first | (rw [if_pos (by decide +kernel)]; kernel_rfl) | (rw [if_neg (by decide +kernel)]; exact ⟨rfl, rfl⟩)
end Go.Ev.T1
