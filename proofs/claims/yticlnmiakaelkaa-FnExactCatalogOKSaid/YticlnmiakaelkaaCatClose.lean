import Derived.Test.YticlnmiakaelkaaRows
import Derived.Test.YticlnmiakaelkaaChecked
import Derived.JoinedOf
import Derived.KernelRfl
import Derived.ProofKit
import Derived.OpenShut
namespace Go.Ev.T1
open Go Go.Proofs Go.Proofs.Yticlnmiakaelkaa
theorem c1 : Try.pinned.checked.prog.funcNamed Yticlnmiakaelkaa.Rows.fnExactCatalogOKRow.func = some 4 := by kernel_rfl
theorem c2 : joinedFacts Try.pinned.checked.prog 4 Try.f4 Yticlnmiakaelkaa.Rows.fnExactCatalogOKSpec Yticlnmiakaelkaa.Rows.fnExactCatalogOKRow = true := by kernel_rfl
theorem c3 : Try.f4.isInstance Try.pinned.checked.prog Yticlnmiakaelkaa.Rows.fnExactCatalogOKRow.origin Yticlnmiakaelkaa.Rows.fnExactCatalogOKRow.targs := of_decide_eq_true (by kernel_rfl)
theorem c4 : Try.f4.isWrapper Try.pinned.checked.prog Yticlnmiakaelkaa.Rows.fnExactCatalogOKRow.wrapper Yticlnmiakaelkaa.Rows.fnExactCatalogOKRow.mainSum := by unfold Func.isWrapper; first | (rw [if_pos (by decide +kernel)]; kernel_rfl) | (rw [if_neg (by decide +kernel)]; exact ⟨rfl, rfl⟩)
end Go.Ev.T1
