import Derived.Test.YtfdmjgmipnohkaaSrSz
import Derived.Test.YtfdmjgmipnohkaaSrEvH
namespace Go.Ev.T1
open Go Go.Proofs
theorem smt_Time {n : Nat} {x : DTime} (h : SmT n T76 x) : Sm_Time n x := by
 obtain ⟨h0, h1, _⟩ := h
 exact ⟨h0, h1⟩
theorem smt_LVersion {n : Nat} {x : y85q} (h : SmT n T78 x) : Sm_LVersion n x := by
 obtain ⟨h0, h1, _, h3, _⟩ := h
 exact ⟨h0, smt_Time h1, h3⟩
theorem smt_LStoreOp {n : Nat} {x : y23q} (h : SmT n T80 x) : Sm_LStoreOp n x := by
 obtain ⟨h0, h1, h2, h3, h4, h5, _⟩ := h
 exact ⟨h0, smt_LVersion h1, h2, h3, smt_Time h4, h5⟩
theorem smt_Version {n : Nat} {x : y0q} (h : SmT n T91 x) : Sm_Version n x := by
 obtain ⟨h0, h1, _, h3, _⟩ := h
 exact ⟨h0, smt_Time h1, h3⟩
theorem smt_StoreObs {n : Nat} {x : y8q} (h : SmT n T87 x) : Sm_StoreObs n x := by
 obtain ⟨h0, _, h2, _⟩ := h
 exact ⟨h0, ⟨h2.1, fun y hy => smt_Version (h2.2 y hy)⟩⟩
theorem smt_StoreOp {n : Nat} {x : y10q} (h : SmT n T93 x) : Sm_StoreOp n x := by
 obtain ⟨h0, h1, h2, h3, h4, h5, _⟩ := h
 exact ⟨h0, smt_Version h1, h2, h3, smt_Time h4, h5⟩
end Go.Ev.T1
