/- The closing facts of a row. -/
import Derived.Test.YtlgmddbndbobfaaRows
import Derived.Test.YtlgmddbndbobfaaChecked
import Derived.JoinedOf
import Derived.KernelRfl
import Derived.ProofKit
import Derived.OpenShut
namespace Go.Ev.T1
open Go Go.Proofs Go.Proofs.Ytlgmddbndbobfaa
theorem c1 : Try.pinned.checked.prog.funcNamed Ytlgmddbndbobfaa.Rows.fnExactFlatOKRow.func = some 6 := by kernel_rfl
theorem c2 : joinedFacts Try.pinned.checked.prog 6 Try.f6 Ytlgmddbndbobfaa.Rows.fnExactFlatOKSpec Ytlgmddbndbobfaa.Rows.fnExactFlatOKRow = true := by kernel_rfl
theorem c3 : Try.f6.isInstance Try.pinned.checked.prog Ytlgmddbndbobfaa.Rows.fnExactFlatOKRow.origin Ytlgmddbndbobfaa.Rows.fnExactFlatOKRow.targs := of_decide_eq_true (by kernel_rfl)
theorem c4 : Try.f6.isWrapper Try.pinned.checked.prog Ytlgmddbndbobfaa.Rows.fnExactFlatOKRow.wrapper Ytlgmddbndbobfaa.Rows.fnExactFlatOKRow.mainSum := by unfold Func.isWrapper; first | (rw [if_pos (by decide +kernel)]; kernel_rfl) | (rw [if_neg (by decide +kernel)]; exact ⟨rfl, rfl⟩)
end Go.Ev.T1
