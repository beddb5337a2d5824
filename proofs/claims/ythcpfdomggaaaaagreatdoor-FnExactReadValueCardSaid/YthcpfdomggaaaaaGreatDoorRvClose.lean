/- The closing facts of the row. -/
import Derived.Test.YthcpfdomggaaaaaGreatDoorRows
import Derived.Test.YthcpfdomggaaaaaGreatDoorChecked
import Derived.JoinedOf
import Derived.KernelRfl
import Derived.ProofKit
import Derived.OpenShut
namespace Go.Ev.T1
open Go Go.Proofs Go.Proofs.YthcpfdomggaaaaaGreatDoor
theorem c1 : Tryz.pinned.checked.prog.funcNamed YthcpfdomggaaaaaGreatDoor.Rows.fnExactReadValueRow.func = some 3 := by kernel_rfl
theorem c2 : joinedFacts Tryz.pinned.checked.prog 3 Tryz.f3 YthcpfdomggaaaaaGreatDoor.Rows.fnExactReadValueSpec YthcpfdomggaaaaaGreatDoor.Rows.fnExactReadValueRow = true := by kernel_rfl
theorem c3 : Tryz.f3.isInstance Tryz.pinned.checked.prog YthcpfdomggaaaaaGreatDoor.Rows.fnExactReadValueRow.origin YthcpfdomggaaaaaGreatDoor.Rows.fnExactReadValueRow.targs := of_decide_eq_true (by kernel_rfl)
theorem c4 : Tryz.f3.isWrapper Tryz.pinned.checked.prog YthcpfdomggaaaaaGreatDoor.Rows.fnExactReadValueRow.wrapper YthcpfdomggaaaaaGreatDoor.Rows.fnExactReadValueRow.mainSum := by unfold Func.isWrapper; first | (rw [if_pos (by decide +kernel)]; kernel_rfl) | (rw [if_neg (by decide +kernel)]; exact ⟨rfl, rfl⟩)
end Go.Ev.T1
