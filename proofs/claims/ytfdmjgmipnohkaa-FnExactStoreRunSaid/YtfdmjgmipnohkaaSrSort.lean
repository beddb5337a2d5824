import Derived.Test.YtfdmjgmipnohkaaShelf
import Derived.Test.YtfdmjgmipnohkaaSrEvH
import Derived.Test.YtfdmjgmipnohkaaSr
import Derived.Shelf.Lay
import Derived.KernelRfl
namespace Go.Ev.T1
open Go Go.Proofs Go.Shelf Go.RowKit
noncomputable def siT : TypeInfo := (Try.prog.info? 82).get (by kernel_rfl)
noncomputable def siE : TypeInfo := (Try.prog.info? 92).get (by kernel_rfl)
theorem siK (n : Nat) (h2 : 2 ≤ n) : Lib.swapperK n siE 25 = 9 := by
 have a : siE.hasPointers = true := by kernel_rfl
 have b : (siE.bytes == 8) = false := by kernel_rfl
 have c : (n == 0) = false := by simp; omega
 have d : (n == 1) = false := by simp; omega
 simp [Lib.swapperK, a, b, c, d]
theorem stable82 : StableOk Try.prog 31 82 :=
 stableOk_of Try.sl8 82 92 siT siE (by kernel_rfl) (by kernel_rfl) (by kernel_rfl) (by kernel_rfl) (by kernel_rfl) 25 (fun _ => by kernel_rfl) (fun _ => by kernel_rfl) 109 110 117 (by kernel_rfl) (by kernel_rfl) (fun n h2 => by rw [siK _ h2]; kernel_rfl) false
  (fun args W => run_callFunc_extern Try.func117 (by kernel_rfl) (by kernel_rfl) (by kernel_rfl) (e := Extern.ReflectliteSwapper.swap false) (by kernel_rfl) args W)
theorem stops {w0 : World} : Stops w0 := ⟨⟨.con (fun k x r w G args _ _ h => (by cases h)) rfl, enters' Try.func31 (by kernel_rfl), fun T hT => by
  simp only [memT] at hT
  split at hT
  ·rename_i h
   rw [← Nat.eq_of_beq_eq_true h]
   exact stable82
  ·cases hT⟩⟩
end Go.Ev.T1
