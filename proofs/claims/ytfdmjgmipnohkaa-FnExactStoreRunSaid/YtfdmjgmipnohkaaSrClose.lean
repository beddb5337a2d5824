import Derived.Test.YtfdmjgmipnohkaaRows
import Derived.Test.YtfdmjgmipnohkaaChecked
import Derived.JoinedOf
import Derived.KernelRfl
import Derived.ProofKit
import Derived.OpenShut
namespace Go.Ev.T1
open Go Go.Proofs Go.Proofs.Ytfdmjgmipnohkaa
theorem c1 : Try.pinned.checked.prog.funcNamed Ytfdmjgmipnohkaa.Rows.fnExactStoreRunRow.func = some 4 := by kernel_rfl
theorem c2 : joinedFacts Try.pinned.checked.prog 4 Try.f4 Ytfdmjgmipnohkaa.Rows.fnExactStoreRunSpec Ytfdmjgmipnohkaa.Rows.fnExactStoreRunRow = true := by kernel_rfl
theorem c3 : Try.f4.isInstance Try.pinned.checked.prog Ytfdmjgmipnohkaa.Rows.fnExactStoreRunRow.origin Ytfdmjgmipnohkaa.Rows.fnExactStoreRunRow.targs := of_decide_eq_true (by kernel_rfl)
theorem c4 : Try.f4.isWrapper Try.pinned.checked.prog Ytfdmjgmipnohkaa.Rows.fnExactStoreRunRow.wrapper Ytfdmjgmipnohkaa.Rows.fnExactStoreRunRow.mainSum := by unfold Func.isWrapper; first | (rw [if_pos (by decide +kernel)]; kernel_rfl) | (rw [if_neg (by decide +kernel)]; exact ⟨rfl, rfl⟩)
end Go.Ev.T1
