/- What the reading bounds. -/
import Derived.Test.YtfdmjgmipnohkaaAnSz
import Derived.Test.YtfdmjgmipnohkaaAnEvI
namespace Go.Ev.T1
open Go Go.Proofs
theorem smt_Value {n : Nat} {x : DValue} (h : SmT n T56 x) : Sm_Value n x := by
  obtain ⟨h0, h1, h2, h3, _⟩ := h
  exact ⟨h0, h1, h2, h3⟩
theorem smt_LRow {n : Nat} {x : DLRow} (h : SmT n T51 x) : Sm_LRow n x := by
  obtain ⟨h0, _⟩ := h
  exact ⟨h0.1, fun y hy => smt_Value (h0.2 y hy)⟩
theorem smt_Hist {n : Nat} {x : DHist} (h : SmT n T26 x) : Sm_Hist n x := by
  obtain ⟨h0, h1, h2, h3, h4, _⟩ := h
  exact ⟨h0, h1, h2, ⟨h3.1, fun y hy => smt_Value (h3.2 y hy)⟩, ⟨h4.1, fun y hy => (h4.2 y hy)⟩⟩
theorem smt_Row {n : Nat} {x : DRow} (h : SmT n T53 x) : Sm_Row n x := by
  obtain ⟨h0, _⟩ := h
  exact ⟨h0.1, fun y hy => smt_Value (h0.2 y hy)⟩
end Go.Ev.T1
