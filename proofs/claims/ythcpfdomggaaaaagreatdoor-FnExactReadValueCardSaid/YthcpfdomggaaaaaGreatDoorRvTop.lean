/- For every text the law of ReadValue answers true: the program's ReadValue returns what the reference's returns. No condition beyond the statement's own; the card ties the listed variables to the program's text. -/
import Derived.Test.YthcpfdomggaaaaaGreatDoorRvRow
import Derived.Test.YthcpfdomggaaaaaGreatDoorCards
import Derived.Test.YthcpfdomggaaaaaGreatDoorTie
import Derived.SevenTiedAt
namespace Go.Proofs.YthcpfdomggaaaaaGreatDoor
open Go
theorem rvPlain (f : FuncId) (fn : Func) (hf : Tryz.pinned.checked.prog.funcNamed "loop.example/g00015/laws.FnExactReadValue" = some f) (hfn : Tryz.pinned.checked.prog.funcs[f]? = some fn) :
    true = Tryz.pinned.checked.prog.looks [] ∧ ∀ (j : Nat) t, fn.params[j]? = some t → Tryz.pinned.checked.prog.wantsStandIn t = false := by
  obtain rfl : f = 3 := Option.some.inj ((show Tryz.prog.funcNamed "loop.example/g00015/laws.FnExactReadValue" = some 3 by kernel_rfl).symm.trans hf) |>.symm
  obtain rfl : fn = Tryz.f3 := (Option.some.inj (Tryz.func3.symm.trans hfn)).symm
  refine ⟨by kernel_rfl, fun j t ht => ?_⟩
  rw [Tryz.params3] at ht
  obtain rfl : t = 9 := by simpa using Array.mem_of_getElem? ht
  exact (show Tryz.prog.wantsStandIn 9 = false by kernel_rfl)
theorem readValue_holds : Rows.FnExactReadValueCardSaid :=
  Claim7.holds_tied_plain_at .later [] _ _ _ _ Go.Ev.T1.said (fun _ h => by cases h) (by kernel_rfl) (fun _ h => by cases h) fnExactReadValue_row_tie rfl ⟨rfl, rfl⟩ (by kernel_rfl) rfl rvPlain (by kernel_rfl)
end Go.Proofs.YthcpfdomggaaaaaGreatDoor
