/- The guard, copies, equality. -/
import Derived.Test.YthcpfdomggaaaaaGreatDoorRvF
import Derived.Test.YthcpfdomggaaaaaGreatDoorEvD
set_option linter.unusedSimpArgs false
set_option linter.unusedVariables false
namespace Go.Ev.T1
open Go Go.Proofs
def Sm_Value (n : Nat) (a : DValue) : Prop := Rng .i64 a.1 ∧ Rng .i64 a.2.1 ∧ Rng .i64 a.2.2.1 ∧ a.2.2.2.1.length ≤ n
theorem eq_Value (a : DValue) (ha : Sm_Value 1048576 a) : F_laws_eqValue a a = some true := by
  unfold F_laws_eqValue
  simp only [bne_self_eq_false, beq_self_eq_true, Bool.not_true, br_false, bnd_some']
end Go.Ev.T1
