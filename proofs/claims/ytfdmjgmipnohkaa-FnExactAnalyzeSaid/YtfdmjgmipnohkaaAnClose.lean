/- The closing facts of a row. -/
import Derived.Test.YtfdmjgmipnohkaaRows
import Derived.Test.YtfdmjgmipnohkaaChecked
import Derived.JoinedOf
import Derived.KernelRfl
import Derived.ProofKit
import Derived.OpenShut
namespace Go.Ev.T1
open Go Go.Proofs Go.Proofs.Ytfdmjgmipnohkaa
theorem c1 : Try.pinned.checked.prog.funcNamed Ytfdmjgmipnohkaa.Rows.fnExactAnalyzeRow.func = some 3 := by kernel_rfl
theorem c2 : joinedFacts Try.pinned.checked.prog 3 Try.f3 Ytfdmjgmipnohkaa.Rows.fnExactAnalyzeSpec Ytfdmjgmipnohkaa.Rows.fnExactAnalyzeRow = true := by kernel_rfl
theorem c3 : Try.f3.isInstance Try.pinned.checked.prog Ytfdmjgmipnohkaa.Rows.fnExactAnalyzeRow.origin Ytfdmjgmipnohkaa.Rows.fnExactAnalyzeRow.targs := of_decide_eq_true (by kernel_rfl)
theorem c4 : Try.f3.isWrapper Try.pinned.checked.prog Ytfdmjgmipnohkaa.Rows.fnExactAnalyzeRow.wrapper Ytfdmjgmipnohkaa.Rows.fnExactAnalyzeRow.mainSum := by unfold Func.isWrapper; first | (rw [if_pos (by decide +kernel)]; kernel_rfl) | (rw [if_neg (by decide +kernel)]; exact ⟨rfl, rfl⟩)
end Go.Ev.T1
