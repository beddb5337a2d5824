/- What the reading bounds. -/
import Derived.Test.YtlgmddbndbobfaaFltSz
import Derived.Test.YtlgmddbndbobfaaEvD
namespace Go.Ev.T1
open Go Go.Proofs
theorem smt_Column {n : Nat} {x : DColumn} (h : SmT n T166 x) : Sm_Column n x := by
  obtain ⟨h0, h1, h2, _, _⟩ := h
  exact ⟨h0, h1, h2⟩
theorem smt_Index {n : Nat} {x : DIndex} (h : SmT n T145 x) : Sm_Index n x := by
  obtain ⟨h0, h1, h2, _, h4, _, _⟩ := h
  exact ⟨h0, h1, ⟨h2.1, fun y hy => (h2.2 y hy)⟩, h4⟩
theorem smt_LTable {n : Nat} {x : DLTable} (h : SmT n T80 x) : Sm_LTable n x := by
  obtain ⟨h0, h1, h2, h3, h4, h5, _⟩ := h
  exact ⟨h0, h1, h2, ⟨h3.1, fun y hy => smt_Column (h3.2 y hy)⟩, ⟨h4.1, fun y hy => (h4.2 y hy)⟩, ⟨h5.1, fun y hy => smt_Index (h5.2 y hy)⟩⟩
theorem smt_Value {n : Nat} {x : DValue} (h : SmT n T107 x) : Sm_Value n x := by
  obtain ⟨h0, h1, h2, h3, _⟩ := h
  exact ⟨h0, h1, h2, h3⟩
theorem smt_LPred {n : Nat} {x : DLPred} (h : SmT n T246 x) : Sm_LPred n x := by
  obtain ⟨h0, h1, h2, h3, _⟩ := h
  exact ⟨h0, h1, h2, smt_Value h3⟩
theorem smt_Out {n : Nat} {x : DOut} (h : SmT n T163 x) : Sm_Out n x := by
  obtain ⟨h0, h1, _⟩ := h
  exact ⟨h0, h1⟩
theorem smt_LFlat {n : Nat} {x : DLFlat} (h : SmT n T67 x) : Sm_LFlat n x := by
  obtain ⟨h0, h1, h2, h3, _, _⟩ := h
  exact ⟨⟨h0.1, fun y hy => (h0.2 y hy)⟩, ⟨h1.1, fun y hy => smt_LPred (h1.2 y hy)⟩, ⟨h2.1, fun y hy => (h2.2 y hy)⟩, ⟨h3.1, fun y hy => smt_Out (h3.2 y hy)⟩⟩
theorem smt_Table {n : Nat} {x : DTable} (h : SmT n T90 x) : Sm_Table n x := by
  obtain ⟨h0, h1, h2, h3, h4, h5, _⟩ := h
  exact ⟨h0, h1, h2, ⟨h3.1, fun y hy => smt_Column (h3.2 y hy)⟩, ⟨h4.1, fun y hy => (h4.2 y hy)⟩, ⟨h5.1, fun y hy => smt_Index (h5.2 y hy)⟩⟩
theorem smt_Pred {n : Nat} {x : DPred} (h : SmT n T161 x) : Sm_Pred n x := by
  obtain ⟨h0, h1, h2, h3, _⟩ := h
  exact ⟨h0, h1, h2, smt_Value h3⟩
theorem smt_Flat {n : Nat} {x : DFlat} (h : SmT n T73 x) : Sm_Flat n x := by
  obtain ⟨h0, h1, h2, h3, _, _⟩ := h
  exact ⟨⟨h0.1, fun y hy => (h0.2 y hy)⟩, ⟨h1.1, fun y hy => smt_Pred (h1.2 y hy)⟩, ⟨h2.1, fun y hy => (h2.2 y hy)⟩, ⟨h3.1, fun y hy => smt_Out (h3.2 y hy)⟩⟩
end Go.Ev.T1
