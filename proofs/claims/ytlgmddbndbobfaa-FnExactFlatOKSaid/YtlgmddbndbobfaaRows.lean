/-
  No cell of these rows narrows 'for every input' (looked for: loops, veiled, ifaces, maps, wideKeys, modest, calm, conditions, laid).
  DERIVED. THE GIVEN ROWS OF THIS SEAT. 5 by the template 'for every input the law returns true; each argument reads behind the call as it read before'; 0 by the template 'total and deterministic' (their statements: YtlgmddbndbobfaaTotals.lean).
  GIVEN WITH THE SEED: the statements are not yours to turn. If you find one false, say at which input.
  Laid BY PROGRAM, IN A SANDBOX (cutbox-rows.mjs): the forced cells as the released guide's own fill.sh prints them over the translation 3933833406cdb1de… (all of the seat's roots in one cut). By AI agents, Wed Nov 11 2026. No macro, syntax, notation, axiom, sorry.
-/
import Derived.Test.YtlgmddbndbobfaaChecked
import GoSem.Claim
import GoSem.ClaimJoined
import GoSem.ClaimMapViews
import Derived.JoinedTies
import Derived.KernelRfl
namespace Go.Proofs.Ytlgmddbndbobfaa
/- THE CELL 'sum', in the pinned program and in every row, IS THE sha256 OF THE DUMP (.gsa) THAT YtlgmddbndbobfaaProg.lean LOADS. Nothing in Lean hashes anything: it is a label: what it is worth is what the hold of that sum in a sandbox is worth. -/
noncomputable def Try.pinned : Pinned := { name := "ytlgmddbndbobfaa", sum := "3933833406cdb1deb109de673f252aa7ccae6ac4d7e5294c53b7b65c1449d0eb", checked := Try.checked }
namespace Rows
def none {H : Type} : Left H := { results := [], args := [] }

/-- 'laws.FnExactAnalyze': WHATEVER THE INPUT: true; the input reads as it did. -/
def fnExactAnalyzeSpec : ChangeSpec := { name := "fnExactAnalyze", fn := fun _ => fun
  | [d1, d2, d3] => { results := [.lit (.bool true)], args := [d1, d2, d3] }
  | _ => none }
def fnExactAnalyzeRow : OpenClaim := { program := "ytlgmddbndbobfaa", sum := "3933833406cdb1deb109de673f252aa7ccae6ac4d7e5294c53b7b65c1449d0eb", func := "loop.example/g00015/laws.FnExactAnalyze", spec := "fnExactAnalyze", inPlace := ["internal/bytealg.abigen_runtime_cmpstring", "internal/reflectlite.ValueOf", "internal/reflectlite.Swapper", "(internal/reflectlite.Value).Len"], unfollowed := true, recurses := true, apart := false }
def FnExactAnalyzeSaid : Prop := fnExactAnalyzeRow.holds Try.pinned (OpenSpec.ofChange fnExactAnalyzeSpec)

/-- ITS FALSE NEIGHBOUR: 'it returns false'. Refute it at one input. -/
def fnExactAnalyzeWrong : ChangeSpec := { name := "fnExactAnalyze", fn := fun _ => fun
  | [d1, d2, d3] => { results := [.lit (.bool false)], args := [d1, d2, d3] }
  | _ => none }
def FnExactAnalyzeWrongFalsely : Prop := fnExactAnalyzeRow.holds Try.pinned (OpenSpec.ofChange fnExactAnalyzeWrong)

/-- 'laws.FnExactBackup': WHATEVER THE INPUT: true; the input reads as it did. -/
def fnExactBackupSpec : ChangeSpec := { name := "fnExactBackup", fn := fun _ => fun
  | [d1, d2, d3, d4] => { results := [.lit (.bool true)], args := [d1, d2, d3, d4] }
  | _ => none }
def fnExactBackupRow : OpenClaim := { program := "ytlgmddbndbobfaa", sum := "3933833406cdb1deb109de673f252aa7ccae6ac4d7e5294c53b7b65c1449d0eb", func := "loop.example/g00015/laws.FnExactBackup", spec := "fnExactBackup", inPlace := ["internal/reflectlite.ValueOf", "internal/reflectlite.Swapper", "(internal/reflectlite.Value).Len", "internal/abi.NoEscape"], unfollowed := true, recurses := true, named := ["encoding/binary.BigEndian"], apart := false }
def FnExactBackupSaid : Prop := fnExactBackupRow.holds Try.pinned (OpenSpec.ofChange fnExactBackupSpec)

/-- ITS FALSE NEIGHBOUR: 'it returns false'. Refute it at one input. -/
def fnExactBackupWrong : ChangeSpec := { name := "fnExactBackup", fn := fun _ => fun
  | [d1, d2, d3, d4] => { results := [.lit (.bool false)], args := [d1, d2, d3, d4] }
  | _ => none }
def FnExactBackupWrongFalsely : Prop := fnExactBackupRow.holds Try.pinned (OpenSpec.ofChange fnExactBackupWrong)

/-- 'laws.FnExactAdvance': WHATEVER THE INPUT: true; the input reads as it did. -/
def fnExactAdvanceSpec : ChangeSpec := { name := "fnExactAdvance", fn := fun _ => fun
  | [d1, d2] => { results := [.lit (.bool true)], args := [d1, d2] }
  | _ => none }
def fnExactAdvanceRow : OpenClaim := { program := "ytlgmddbndbobfaa", sum := "3933833406cdb1deb109de673f252aa7ccae6ac4d7e5294c53b7b65c1449d0eb", func := "loop.example/g00015/laws.FnExactAdvance", spec := "fnExactAdvance", inPlace := ["internal/bytealg.IndexByteString", "internal/bytealg.IndexString"], unfollowed := true, recurses := true, named := ["internal/bytealg.MaxLen"], apart := false }
def FnExactAdvanceSaid : Prop := fnExactAdvanceRow.holds Try.pinned (OpenSpec.ofChange fnExactAdvanceSpec)

/-- ITS FALSE NEIGHBOUR: 'it returns false'. Refute it at one input. -/
def fnExactAdvanceWrong : ChangeSpec := { name := "fnExactAdvance", fn := fun _ => fun
  | [d1, d2] => { results := [.lit (.bool false)], args := [d1, d2] }
  | _ => none }
def FnExactAdvanceWrongFalsely : Prop := fnExactAdvanceRow.holds Try.pinned (OpenSpec.ofChange fnExactAdvanceWrong)

/-- 'laws.FnExactFlatOK': WHATEVER THE INPUT: true; the input reads as it did. -/
def fnExactFlatOKSpec : ChangeSpec := { name := "fnExactFlatOK", fn := fun _ => fun
  | [d1, d2] => { results := [.lit (.bool true)], args := [d1, d2] }
  | _ => none }
def fnExactFlatOKRow : OpenClaim := { program := "ytlgmddbndbobfaa", sum := "3933833406cdb1deb109de673f252aa7ccae6ac4d7e5294c53b7b65c1449d0eb", func := "loop.example/g00015/laws.FnExactFlatOK", spec := "fnExactFlatOK", inPlace := ["internal/bytealg.IndexByteString", "internal/bytealg.IndexString"], unfollowed := true, recurses := true, named := ["internal/bytealg.MaxLen"], apart := false }
def FnExactFlatOKSaid : Prop := fnExactFlatOKRow.holds Try.pinned (OpenSpec.ofChange fnExactFlatOKSpec)

/-- ITS FALSE NEIGHBOUR: 'it returns false'. Refute it at one input. -/
def fnExactFlatOKWrong : ChangeSpec := { name := "fnExactFlatOK", fn := fun _ => fun
  | [d1, d2] => { results := [.lit (.bool false)], args := [d1, d2] }
  | _ => none }
def FnExactFlatOKWrongFalsely : Prop := fnExactFlatOKRow.holds Try.pinned (OpenSpec.ofChange fnExactFlatOKWrong)

/-- 'laws.FnExactRowRead': WHATEVER THE INPUT: true; the input reads as it did. -/
def fnExactRowReadSpec : ChangeSpec := { name := "fnExactRowRead", fn := fun _ => fun
  | [d1, d2] => { results := [.lit (.bool true)], args := [d1, d2] }
  | _ => none }
def fnExactRowReadRow : OpenClaim := { program := "ytlgmddbndbobfaa", sum := "3933833406cdb1deb109de673f252aa7ccae6ac4d7e5294c53b7b65c1449d0eb", func := "loop.example/g00015/laws.FnExactRowRead", spec := "fnExactRowRead", inPlace := ["internal/bytealg.IndexByteString", "internal/bytealg.IndexString", "internal/abi.NoEscape"], unfollowed := true, recurses := true, named := ["internal/bytealg.MaxLen"], apart := false }
def FnExactRowReadSaid : Prop := fnExactRowReadRow.holds Try.pinned (OpenSpec.ofChange fnExactRowReadSpec)

/-- ITS FALSE NEIGHBOUR: 'it returns false'. Refute it at one input. -/
def fnExactRowReadWrong : ChangeSpec := { name := "fnExactRowRead", fn := fun _ => fun
  | [d1, d2] => { results := [.lit (.bool false)], args := [d1, d2] }
  | _ => none }
def FnExactRowReadWrongFalsely : Prop := fnExactRowReadRow.holds Try.pinned (OpenSpec.ofChange fnExactRowReadWrong)

/- THE SECOND FORM. 'bulk': how many values and letters a reading holds, each counted each time it is reached (what is shared counts as often as it is met; a slice's spare places count too). A statement '..UptoSaid' is the law's where the arguments, and the package variables that the reading takes, are together of bulk at most 1048576: NARROWER than '..Said'. Prove '..Said' where nothing that the law and all that it calls make is longer than what came in: it says more and counts as full. Else prove '..UptoSaid'. A law counts once. -/
mutual
def uptoBulk {H : Type} : DataW H → Nat
  | .lit (.string bytes) => bytes.length + 1
  | .lit _ => 1
  | .nil => 1
  | .ptr d => uptoBulk d + 1
  | .slice elems spare => uptoBulkAll elems + uptoBulkAll spare + 1
  | .agg parts => uptoBulkAll parts + 1
  | .iface _ d => uptoBulk d + 1
  | .map entries => uptoBulkEntries entries + 1
  | .held _ => 1
def uptoBulkAll {H : Type} : List (DataW H) → Nat
  | [] => 0
  | d :: r => uptoBulk d + uptoBulkAll r
def uptoBulkEntries {H : Type} : List (Lit × DataW H) → Nat
  | [] => 0
  | x :: r => uptoBulkEntry x + uptoBulkEntries r
def uptoBulkEntry {H : Type} : Lit × DataW H → Nat
  | (.string bytes, d) => bytes.length + uptoBulk d + 1
  | (_, d) => uptoBulk d + 1
 end
def uptoSmall : (H : Type) → List (DataW H) → Bool := fun _ ds => decide (uptoBulkAll ds ≤ 1048576)
def OpenSpec.upto (s : _root_.Go.ChangeSpec) : _root_.Go.OpenSpec := { _root_.Go.OpenSpec.ofChange s with cond := some uptoSmall }

/-- 'laws.FnExactAnalyze', WHERE WHAT IT READS IS OF BULK AT MOST 1048576: true; the input reads as it did. -/
def fnExactAnalyzeUptoRow : OpenClaim := { program := "ytlgmddbndbobfaa", sum := "3933833406cdb1deb109de673f252aa7ccae6ac4d7e5294c53b7b65c1449d0eb", func := "loop.example/g00015/laws.FnExactAnalyze", spec := "fnExactAnalyze", inPlace := ["internal/bytealg.abigen_runtime_cmpstring", "internal/reflectlite.ValueOf", "internal/reflectlite.Swapper", "(internal/reflectlite.Value).Len"], unfollowed := true, recurses := true, apart := false, narrowed := true }
def FnExactAnalyzeUptoSaid : Prop := fnExactAnalyzeUptoRow.holds Try.pinned (OpenSpec.upto fnExactAnalyzeSpec)

/-- 'laws.FnExactBackup', WHERE WHAT IT READS IS OF BULK AT MOST 1048576: true; the input reads as it did. -/
def fnExactBackupUptoRow : OpenClaim := { program := "ytlgmddbndbobfaa", sum := "3933833406cdb1deb109de673f252aa7ccae6ac4d7e5294c53b7b65c1449d0eb", func := "loop.example/g00015/laws.FnExactBackup", spec := "fnExactBackup", inPlace := ["internal/reflectlite.ValueOf", "internal/reflectlite.Swapper", "(internal/reflectlite.Value).Len", "internal/abi.NoEscape"], unfollowed := true, recurses := true, named := ["encoding/binary.BigEndian"], apart := false, narrowed := true }
def FnExactBackupUptoSaid : Prop := fnExactBackupUptoRow.holds Try.pinned (OpenSpec.upto fnExactBackupSpec)

/-- 'laws.FnExactAdvance', WHERE WHAT IT READS IS OF BULK AT MOST 1048576: true; the input reads as it did. -/
def fnExactAdvanceUptoRow : OpenClaim := { program := "ytlgmddbndbobfaa", sum := "3933833406cdb1deb109de673f252aa7ccae6ac4d7e5294c53b7b65c1449d0eb", func := "loop.example/g00015/laws.FnExactAdvance", spec := "fnExactAdvance", inPlace := ["internal/bytealg.IndexByteString", "internal/bytealg.IndexString"], unfollowed := true, recurses := true, named := ["internal/bytealg.MaxLen"], apart := false, narrowed := true }
def FnExactAdvanceUptoSaid : Prop := fnExactAdvanceUptoRow.holds Try.pinned (OpenSpec.upto fnExactAdvanceSpec)

/-- 'laws.FnExactFlatOK', WHERE WHAT IT READS IS OF BULK AT MOST 1048576: true; the input reads as it did. -/
def fnExactFlatOKUptoRow : OpenClaim := { program := "ytlgmddbndbobfaa", sum := "3933833406cdb1deb109de673f252aa7ccae6ac4d7e5294c53b7b65c1449d0eb", func := "loop.example/g00015/laws.FnExactFlatOK", spec := "fnExactFlatOK", inPlace := ["internal/bytealg.IndexByteString", "internal/bytealg.IndexString"], unfollowed := true, recurses := true, named := ["internal/bytealg.MaxLen"], apart := false, narrowed := true }
def FnExactFlatOKUptoSaid : Prop := fnExactFlatOKUptoRow.holds Try.pinned (OpenSpec.upto fnExactFlatOKSpec)

/-- 'laws.FnExactRowRead', WHERE WHAT IT READS IS OF BULK AT MOST 1048576: true; the input reads as it did. -/
def fnExactRowReadUptoRow : OpenClaim := { program := "ytlgmddbndbobfaa", sum := "3933833406cdb1deb109de673f252aa7ccae6ac4d7e5294c53b7b65c1449d0eb", func := "loop.example/g00015/laws.FnExactRowRead", spec := "fnExactRowRead", inPlace := ["internal/bytealg.IndexByteString", "internal/bytealg.IndexString", "internal/abi.NoEscape"], unfollowed := true, recurses := true, named := ["internal/bytealg.MaxLen"], apart := false, narrowed := true }
def FnExactRowReadUptoSaid : Prop := fnExactRowReadUptoRow.holds Try.pinned (OpenSpec.upto fnExactRowReadSpec)

end Rows
end Go.Proofs.Ytlgmddbndbobfaa
