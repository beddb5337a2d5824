/- What the reading bounds. -/
import Derived.Test.YthcpfdomggaaaaaGreatDoorRvSz
import Derived.Test.YthcpfdomggaaaaaGreatDoorEvD
namespace Go.Ev.T1
open Go Go.Proofs
theorem smt_Value {n : Nat} {x : DValue} (h : SmT n T22 x) : Sm_Value n x := by
  obtain ⟨h0, h1, h2, h3, _⟩ := h
  exact ⟨h0, h1, h2, h3⟩
end Go.Ev.T1
