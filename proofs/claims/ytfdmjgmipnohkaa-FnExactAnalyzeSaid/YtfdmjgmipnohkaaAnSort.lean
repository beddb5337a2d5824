/- sort.SliceStable and strings.Compare at the seat. -/
import Derived.Test.YtfdmjgmipnohkaaAnShelf
import Derived.Test.YtfdmjgmipnohkaaAnEvH
import Derived.Test.YtfdmjgmipnohkaaAn
import Derived.Shelf.Lay
import Derived.Shelf.Small.Strs
import Derived.KernelRfl
namespace Go.Ev.T1
open Go Go.Proofs Go.Shelf Go.RowKit
noncomputable def siT : TypeInfo := (Try.prog.info? 24).get (by kernel_rfl)
noncomputable def siE : TypeInfo := (Try.prog.info? 57).get (by kernel_rfl)
theorem siK (n : Nat) (h2 : 2 ≤ n) : Lib.swapperK n siE 25 = 9 := by
  have a : siE.hasPointers = true := by kernel_rfl
  have b : (siE.bytes == 8) = false := by kernel_rfl
  have c : (n == 0) = false := by simp; omega
  have d : (n == 1) = false := by simp; omega
  simp [Lib.swapperK, a, b, c, d]
theorem stable24 : StableOk Try.prog 31 24 :=
  stableOk_of Try.sl8 24 57 siT siE (by kernel_rfl) (by kernel_rfl) (by kernel_rfl) (by kernel_rfl) (by kernel_rfl) 25 (fun _ => by kernel_rfl) (fun _ => by kernel_rfl) 109 110 117 (by kernel_rfl) (by kernel_rfl) (fun n h2 => by rw [siK _ h2]; kernel_rfl) false
    (fun args W => run_callFunc_extern Try.func117 (by kernel_rfl) (by kernel_rfl) (by kernel_rfl) (e := Extern.ReflectliteSwapper.swap false) (by kernel_rfl) args W)
theorem strArg {w : World} {G : Nat → Prop} {x : List UInt8} {v : Value} (h : Arg w G (.val .str) x v) : ∃ s : ByteArray, v = .string s ∧ s.data.toList = x := by
  obtain ⟨cs, ⟨s, e1, e2⟩, ha⟩ := h
  simp only [AsVal, Ty.isAgg] at ha
  subst ha
  simp only [List.cons.injEq, and_true] at e1
  exact ⟨s, e1, e2⟩
theorem resInt {w : World} {G : Nat → Prop} (n : Int) : Res1 w G (.int .i64) n (.int .i64 n) := ⟨[.int .i64 n], rfl, rfl⟩
theorem compare_ok {W : World} : ConOk Try.prog W 71 c_strings_Compare := by
  intro k x r w G args hb hG hr hargs
  match args, hargs with
  | [u, v], ⟨h1, h2, _⟩ =>
    obtain ⟨s, rfl, e1⟩ := strArg h1
    obtain ⟨t, rfl, e2⟩ := strArg h2
    obtain rfl := Option.some.inj hr
    refine Calls.mono (Any.strings_Compare Try.lays106 s t w) ?_
    rintro e w' ⟨rfl, rfl⟩
    rw [e1, e2]
    exact ⟨[.int .i64 _], rfl, .refl _ _, _, rfl, resInt _⟩
theorem stops {w0 : World} : Stops w0 := ⟨⟨.con (fun k x r w G args _ _ h => (by cases h)) rfl, enters' Try.func31 (by kernel_rfl), fun T hT => by
    simp only [memT] at hT
    split at hT
    · rename_i h
      rw [← Nat.eq_of_beq_eq_true h]
      exact stable24
    · cases hT⟩, .con compare_ok rfl, enters' Try.func71 (by kernel_rfl)⟩
end Go.Ev.T1
