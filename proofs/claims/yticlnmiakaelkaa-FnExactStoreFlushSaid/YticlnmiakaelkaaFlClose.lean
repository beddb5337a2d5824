/- The closing facts of a row. -/
import Derived.Test.YticlnmiakaelkaaRows
import Derived.Test.YticlnmiakaelkaaChecked
import Derived.JoinedOf
import Derived.KernelRfl
import Derived.ProofKit
import Derived.OpenShut
namespace Go.Ev.T1
open Go Go.Proofs Go.Proofs.Yticlnmiakaelkaa
theorem c1 : Try.pinned.checked.prog.funcNamed Yticlnmiakaelkaa.Rows.fnExactStoreFlushRow.func = some 10 := by kernel_rfl
theorem c2 : joinedFacts Try.pinned.checked.prog 10 Try.f10 Yticlnmiakaelkaa.Rows.fnExactStoreFlushSpec Yticlnmiakaelkaa.Rows.fnExactStoreFlushRow = true := by kernel_rfl
theorem c3 : Try.f10.isInstance Try.pinned.checked.prog Yticlnmiakaelkaa.Rows.fnExactStoreFlushRow.origin Yticlnmiakaelkaa.Rows.fnExactStoreFlushRow.targs := of_decide_eq_true (by kernel_rfl)
theorem c4 : Try.f10.isWrapper Try.pinned.checked.prog Yticlnmiakaelkaa.Rows.fnExactStoreFlushRow.wrapper Yticlnmiakaelkaa.Rows.fnExactStoreFlushRow.mainSum := by unfold Func.isWrapper; first | (rw [if_pos (by decide +kernel)]; kernel_rfl) | (rw [if_neg (by decide +kernel)]; exact ⟨rfl, rfl⟩)
end Go.Ev.T1
