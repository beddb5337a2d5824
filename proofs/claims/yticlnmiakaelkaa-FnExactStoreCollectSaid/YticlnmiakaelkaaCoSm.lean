/- What the reading bounds. -/
import Derived.Test.YticlnmiakaelkaaCoSz
import Derived.Test.YticlnmiakaelkaaCoEvH
namespace Go.Ev.T1
open Go Go.Proofs
theorem smt_Time {n : Nat} {x : DTime} (h : SmT n T32 x) : Sm_Time n x := by
  obtain ⟨h0, h1, _⟩ := h
  exact ⟨h0, h1⟩
theorem smt_LVersion {n : Nat} {x : DLVersion} (h : SmT n T92 x) : Sm_LVersion n x := by
  obtain ⟨h0, h1, _, h3, _⟩ := h
  exact ⟨h0, smt_Time h1, h3⟩
theorem smt_LRun {n : Nat} {x : DLRun} (h : SmT n T237 x) : Sm_LRun n x := by
  obtain ⟨h0, h1, _⟩ := h
  exact ⟨⟨h0.1, fun y hy => smt_LVersion (h0.2 y hy)⟩, h1⟩
theorem smt_LStore {n : Nat} {x : DLStore} (h : SmT n T53 x) : Sm_LStore n x := by
  obtain ⟨h0, h1, h2, _⟩ := h
  exact ⟨⟨h0.1, fun y hy => smt_LVersion (h0.2 y hy)⟩, ⟨h1.1, fun y hy => smt_LRun (h1.2 y hy)⟩, smt_Time h2⟩
theorem smt_Version {n : Nat} {x : DVersion} (h : SmT n T41 x) : Sm_Version n x := by
  obtain ⟨h0, h1, _, h3, _⟩ := h
  exact ⟨h0, smt_Time h1, h3⟩
theorem smt_Run {n : Nat} {x : DRun} (h : SmT n T105 x) : Sm_Run n x := by
  obtain ⟨h0, h1, _⟩ := h
  exact ⟨⟨h0.1, fun y hy => smt_Version (h0.2 y hy)⟩, h1⟩
theorem smt_Store {n : Nat} {x : DStore} (h : SmT n T59 x) : Sm_Store n x := by
  obtain ⟨h0, h1, h2, _⟩ := h
  exact ⟨⟨h0.1, fun y hy => smt_Version (h0.2 y hy)⟩, ⟨h1.1, fun y hy => smt_Run (h1.2 y hy)⟩, smt_Time h2⟩
end Go.Ev.T1
