/-
  No cell of these rows narrows 'for every input' (looked for: loops, veiled, ifaces, maps, wideKeys, modest, calm, conditions, laid).
  DERIVED. THE GIVEN ROWS OF THIS SEAT. 12 by the template 'for every input the law returns true; each argument reads behind the call as it read before'; 0 by the template 'total and deterministic' (their statements: YticlnmiakaelkaaTotals.lean).
  GIVEN WITH THE SEED: the statements are not yours to turn. If you find one false, say at which input.
  Laid BY PROGRAM, IN A SANDBOX (cutbox-rows.mjs): the forced cells as the released guide's own fill.sh prints them over the translation bf067f1dad4dcc1f… (all of the seat's roots in one cut). By AI agents, Wed Nov 11 2026. No macro, syntax, notation, axiom, sorry.
-/
import Derived.Test.YticlnmiakaelkaaChecked
import GoSem.Claim
import GoSem.ClaimJoined
import GoSem.ClaimMapViews
import Derived.JoinedTies
import Derived.KernelRfl
namespace Go.Proofs.Yticlnmiakaelkaa
/- THE CELL 'sum', in the pinned program and in every row, IS THE sha256 OF THE DUMP (.gsa) THAT YticlnmiakaelkaaProg.lean LOADS. Nothing in Lean hashes anything: it is a label: what it is worth is what the hold of that sum in a sandbox is worth. -/
noncomputable def Try.pinned : Pinned := { name := "yticlnmiakaelkaa", sum := "bf067f1dad4dcc1fd03b4849a19a21106c13102324f7193899156c6391df999a", checked := Try.checked }
namespace Rows
def none {H : Type} : Left H := { results := [], args := [] }

/-- 'laws.FnFeed': WHATEVER THE INPUT: true; the input reads as it did. -/
def fnFeedSpec : ChangeSpec := { name := "fnFeed", fn := fun _ => fun
  | [d] => { results := [.lit (.bool true)], args := [d] }
  | _ => none }
def fnFeedRow : OpenClaim := { program := "yticlnmiakaelkaa", sum := "bf067f1dad4dcc1fd03b4849a19a21106c13102324f7193899156c6391df999a", func := "loop.example/g00015/laws.FnFeed", spec := "fnFeed", inPlace := ["internal/reflectlite.ValueOf", "internal/reflectlite.Swapper", "(internal/reflectlite.Value).Len"], unfollowed := true, recurses := true, plainKeys := false, apart := false }
def FnFeedSaid : Prop := fnFeedRow.holds Try.pinned (OpenSpec.ofChange fnFeedSpec)

/-- ITS FALSE NEIGHBOUR: 'it returns false'. Refute it at one input. -/
def fnFeedWrong : ChangeSpec := { name := "fnFeed", fn := fun _ => fun
  | [d] => { results := [.lit (.bool false)], args := [d] }
  | _ => none }
def FnFeedWrongFalsely : Prop := fnFeedRow.holds Try.pinned (OpenSpec.ofChange fnFeedWrong)

/-- 'laws.FnExactCatalogOK': WHATEVER THE INPUT: true; the input reads as it did. -/
def fnExactCatalogOKSpec : ChangeSpec := { name := "fnExactCatalogOK", fn := fun _ => fun
  | [d] => { results := [.lit (.bool true)], args := [d] }
  | _ => none }
def fnExactCatalogOKRow : OpenClaim := { program := "yticlnmiakaelkaa", sum := "bf067f1dad4dcc1fd03b4849a19a21106c13102324f7193899156c6391df999a", func := "loop.example/g00015/laws.FnExactCatalogOK", spec := "fnExactCatalogOK", inPlace := ["internal/bytealg.IndexByteString", "internal/bytealg.IndexString"], unfollowed := true, recurses := true, named := ["internal/bytealg.MaxLen"], plainKeys := false, apart := false }
def FnExactCatalogOKSaid : Prop := fnExactCatalogOKRow.holds Try.pinned (OpenSpec.ofChange fnExactCatalogOKSpec)

/-- ITS FALSE NEIGHBOUR: 'it returns false'. Refute it at one input. -/
def fnExactCatalogOKWrong : ChangeSpec := { name := "fnExactCatalogOK", fn := fun _ => fun
  | [d] => { results := [.lit (.bool false)], args := [d] }
  | _ => none }
def FnExactCatalogOKWrongFalsely : Prop := fnExactCatalogOKRow.holds Try.pinned (OpenSpec.ofChange fnExactCatalogOKWrong)

/-- 'laws.FnExactStoreGet': WHATEVER THE INPUT: true; the input reads as it did. -/
def fnExactStoreGetSpec : ChangeSpec := { name := "fnExactStoreGet", fn := fun _ => fun
  | [d1, d2, d3] => { results := [.lit (.bool true)], args := [d1, d2, d3] }
  | _ => none }
def fnExactStoreGetRow : OpenClaim := { program := "yticlnmiakaelkaa", sum := "bf067f1dad4dcc1fd03b4849a19a21106c13102324f7193899156c6391df999a", func := "loop.example/g00015/laws.FnExactStoreGet", spec := "fnExactStoreGet", inPlace := ["internal/reflectlite.ValueOf", "internal/reflectlite.Swapper", "(internal/reflectlite.Value).Len"], unfollowed := true, recurses := true, plainKeys := false, apart := false }
def FnExactStoreGetSaid : Prop := fnExactStoreGetRow.holds Try.pinned (OpenSpec.ofChange fnExactStoreGetSpec)

/-- ITS FALSE NEIGHBOUR: 'it returns false'. Refute it at one input. -/
def fnExactStoreGetWrong : ChangeSpec := { name := "fnExactStoreGet", fn := fun _ => fun
  | [d1, d2, d3] => { results := [.lit (.bool false)], args := [d1, d2, d3] }
  | _ => none }
def FnExactStoreGetWrongFalsely : Prop := fnExactStoreGetRow.holds Try.pinned (OpenSpec.ofChange fnExactStoreGetWrong)

/-- 'laws.FnExactFeedRun': WHATEVER THE INPUT: true; the input reads as it did. -/
def fnExactFeedRunSpec : ChangeSpec := { name := "fnExactFeedRun", fn := fun _ => fun
  | [d1, d2, d3] => { results := [.lit (.bool true)], args := [d1, d2, d3] }
  | _ => none }
def fnExactFeedRunRow : OpenClaim := { program := "yticlnmiakaelkaa", sum := "bf067f1dad4dcc1fd03b4849a19a21106c13102324f7193899156c6391df999a", func := "loop.example/g00015/laws.FnExactFeedRun", spec := "fnExactFeedRun", inPlace := ["internal/reflectlite.ValueOf", "internal/reflectlite.Swapper", "(internal/reflectlite.Value).Len"], unfollowed := true, recurses := true, plainKeys := false, apart := false }
def FnExactFeedRunSaid : Prop := fnExactFeedRunRow.holds Try.pinned (OpenSpec.ofChange fnExactFeedRunSpec)

/-- ITS FALSE NEIGHBOUR: 'it returns false'. Refute it at one input. -/
def fnExactFeedRunWrong : ChangeSpec := { name := "fnExactFeedRun", fn := fun _ => fun
  | [d1, d2, d3] => { results := [.lit (.bool false)], args := [d1, d2, d3] }
  | _ => none }
def FnExactFeedRunWrongFalsely : Prop := fnExactFeedRunRow.holds Try.pinned (OpenSpec.ofChange fnExactFeedRunWrong)

/-- 'laws.FnExactStoreScan': WHATEVER THE INPUT: true; the input reads as it did. -/
def fnExactStoreScanSpec : ChangeSpec := { name := "fnExactStoreScan", fn := fun _ => fun
  | [d1, d2, d3, d4, d5] => { results := [.lit (.bool true)], args := [d1, d2, d3, d4, d5] }
  | _ => none }
def fnExactStoreScanRow : OpenClaim := { program := "yticlnmiakaelkaa", sum := "bf067f1dad4dcc1fd03b4849a19a21106c13102324f7193899156c6391df999a", func := "loop.example/g00015/laws.FnExactStoreScan", spec := "fnExactStoreScan", inPlace := ["internal/reflectlite.ValueOf", "internal/reflectlite.Swapper", "(internal/reflectlite.Value).Len"], unfollowed := true, recurses := true, plainKeys := false, apart := false }
def FnExactStoreScanSaid : Prop := fnExactStoreScanRow.holds Try.pinned (OpenSpec.ofChange fnExactStoreScanSpec)

/-- ITS FALSE NEIGHBOUR: 'it returns false'. Refute it at one input. -/
def fnExactStoreScanWrong : ChangeSpec := { name := "fnExactStoreScan", fn := fun _ => fun
  | [d1, d2, d3, d4, d5] => { results := [.lit (.bool false)], args := [d1, d2, d3, d4, d5] }
  | _ => none }
def FnExactStoreScanWrongFalsely : Prop := fnExactStoreScanRow.holds Try.pinned (OpenSpec.ofChange fnExactStoreScanWrong)

/-- 'laws.FnExactStoreCompact': WHATEVER THE INPUT: true; the input reads as it did. -/
def fnExactStoreCompactSpec : ChangeSpec := { name := "fnExactStoreCompact", fn := fun _ => fun
  | [d1, d2] => { results := [.lit (.bool true)], args := [d1, d2] }
  | _ => none }
def fnExactStoreCompactRow : OpenClaim := { program := "yticlnmiakaelkaa", sum := "bf067f1dad4dcc1fd03b4849a19a21106c13102324f7193899156c6391df999a", func := "loop.example/g00015/laws.FnExactStoreCompact", spec := "fnExactStoreCompact", inPlace := ["internal/reflectlite.ValueOf", "internal/reflectlite.Swapper", "(internal/reflectlite.Value).Len"], unfollowed := true, recurses := true, plainKeys := false, apart := false }
def FnExactStoreCompactSaid : Prop := fnExactStoreCompactRow.holds Try.pinned (OpenSpec.ofChange fnExactStoreCompactSpec)

/-- ITS FALSE NEIGHBOUR: 'it returns false'. Refute it at one input. -/
def fnExactStoreCompactWrong : ChangeSpec := { name := "fnExactStoreCompact", fn := fun _ => fun
  | [d1, d2] => { results := [.lit (.bool false)], args := [d1, d2] }
  | _ => none }
def FnExactStoreCompactWrongFalsely : Prop := fnExactStoreCompactRow.holds Try.pinned (OpenSpec.ofChange fnExactStoreCompactWrong)

/-- 'laws.FnExactTreeOK': WHATEVER THE INPUT: true; the input reads as it did. -/
def fnExactTreeOKSpec : ChangeSpec := { name := "fnExactTreeOK", fn := fun _ => fun
  | [d] => { results := [.lit (.bool true)], args := [d] }
  | _ => none }
def fnExactTreeOKRow : OpenClaim := { program := "yticlnmiakaelkaa", sum := "bf067f1dad4dcc1fd03b4849a19a21106c13102324f7193899156c6391df999a", func := "loop.example/g00015/laws.FnExactTreeOK", spec := "fnExactTreeOK", inPlace := ["internal/bytealg.IndexByteString", "internal/bytealg.IndexString"], unfollowed := true, recurses := true, named := ["internal/bytealg.MaxLen"], plainKeys := false, apart := false }
def FnExactTreeOKSaid : Prop := fnExactTreeOKRow.holds Try.pinned (OpenSpec.ofChange fnExactTreeOKSpec)

/-- ITS FALSE NEIGHBOUR: 'it returns false'. Refute it at one input. -/
def fnExactTreeOKWrong : ChangeSpec := { name := "fnExactTreeOK", fn := fun _ => fun
  | [d] => { results := [.lit (.bool false)], args := [d] }
  | _ => none }
def FnExactTreeOKWrongFalsely : Prop := fnExactTreeOKRow.holds Try.pinned (OpenSpec.ofChange fnExactTreeOKWrong)

/-- 'laws.FnExactStoreFlush': WHATEVER THE INPUT: true; the input reads as it did. -/
def fnExactStoreFlushSpec : ChangeSpec := { name := "fnExactStoreFlush", fn := fun _ => fun
  | [d] => { results := [.lit (.bool true)], args := [d] }
  | _ => none }
def fnExactStoreFlushRow : OpenClaim := { program := "yticlnmiakaelkaa", sum := "bf067f1dad4dcc1fd03b4849a19a21106c13102324f7193899156c6391df999a", func := "loop.example/g00015/laws.FnExactStoreFlush", spec := "fnExactStoreFlush", inPlace := ["internal/reflectlite.ValueOf", "internal/reflectlite.Swapper", "(internal/reflectlite.Value).Len"], unfollowed := true, recurses := true, plainKeys := false, apart := false }
def FnExactStoreFlushSaid : Prop := fnExactStoreFlushRow.holds Try.pinned (OpenSpec.ofChange fnExactStoreFlushSpec)

/-- ITS FALSE NEIGHBOUR: 'it returns false'. Refute it at one input. -/
def fnExactStoreFlushWrong : ChangeSpec := { name := "fnExactStoreFlush", fn := fun _ => fun
  | [d] => { results := [.lit (.bool false)], args := [d] }
  | _ => none }
def FnExactStoreFlushWrongFalsely : Prop := fnExactStoreFlushRow.holds Try.pinned (OpenSpec.ofChange fnExactStoreFlushWrong)

/-- 'laws.FnExactStorePut': WHATEVER THE INPUT: true; the input reads as it did. -/
def fnExactStorePutSpec : ChangeSpec := { name := "fnExactStorePut", fn := fun _ => fun
  | [d1, d2] => { results := [.lit (.bool true)], args := [d1, d2] }
  | _ => none }
def fnExactStorePutRow : OpenClaim := { program := "yticlnmiakaelkaa", sum := "bf067f1dad4dcc1fd03b4849a19a21106c13102324f7193899156c6391df999a", func := "loop.example/g00015/laws.FnExactStorePut", spec := "fnExactStorePut", inPlace := ["internal/reflectlite.ValueOf", "internal/reflectlite.Swapper", "(internal/reflectlite.Value).Len"], unfollowed := true, recurses := true, plainKeys := false, apart := false }
def FnExactStorePutSaid : Prop := fnExactStorePutRow.holds Try.pinned (OpenSpec.ofChange fnExactStorePutSpec)

/-- ITS FALSE NEIGHBOUR: 'it returns false'. Refute it at one input. -/
def fnExactStorePutWrong : ChangeSpec := { name := "fnExactStorePut", fn := fun _ => fun
  | [d1, d2] => { results := [.lit (.bool false)], args := [d1, d2] }
  | _ => none }
def FnExactStorePutWrongFalsely : Prop := fnExactStorePutRow.holds Try.pinned (OpenSpec.ofChange fnExactStorePutWrong)

/-- 'laws.FnExactStoreCollect': WHATEVER THE INPUT: true; the input reads as it did. -/
def fnExactStoreCollectSpec : ChangeSpec := { name := "fnExactStoreCollect", fn := fun _ => fun
  | [d1, d2] => { results := [.lit (.bool true)], args := [d1, d2] }
  | _ => none }
def fnExactStoreCollectRow : OpenClaim := { program := "yticlnmiakaelkaa", sum := "bf067f1dad4dcc1fd03b4849a19a21106c13102324f7193899156c6391df999a", func := "loop.example/g00015/laws.FnExactStoreCollect", spec := "fnExactStoreCollect", inPlace := ["internal/reflectlite.ValueOf", "internal/reflectlite.Swapper", "(internal/reflectlite.Value).Len"], unfollowed := true, recurses := true, plainKeys := false, apart := false }
def FnExactStoreCollectSaid : Prop := fnExactStoreCollectRow.holds Try.pinned (OpenSpec.ofChange fnExactStoreCollectSpec)

/-- ITS FALSE NEIGHBOUR: 'it returns false'. Refute it at one input. -/
def fnExactStoreCollectWrong : ChangeSpec := { name := "fnExactStoreCollect", fn := fun _ => fun
  | [d1, d2] => { results := [.lit (.bool false)], args := [d1, d2] }
  | _ => none }
def FnExactStoreCollectWrongFalsely : Prop := fnExactStoreCollectRow.holds Try.pinned (OpenSpec.ofChange fnExactStoreCollectWrong)

/-- 'laws.FnFilter': WHATEVER THE INPUT: true; the input reads as it did. -/
def fnFilterSpec : ChangeSpec := { name := "fnFilter", fn := fun _ => fun
  | [d] => { results := [.lit (.bool true)], args := [d] }
  | _ => none }
def fnFilterRow : OpenClaim := { program := "yticlnmiakaelkaa", sum := "bf067f1dad4dcc1fd03b4849a19a21106c13102324f7193899156c6391df999a", func := "loop.example/g00015/laws.FnFilter", spec := "fnFilter", inPlace := ["internal/reflectlite.ValueOf", "internal/reflectlite.Swapper", "(internal/reflectlite.Value).Len"], unfollowed := true, recurses := true, plainKeys := false, apart := false }
def FnFilterSaid : Prop := fnFilterRow.holds Try.pinned (OpenSpec.ofChange fnFilterSpec)

/-- ITS FALSE NEIGHBOUR: 'it returns false'. Refute it at one input. -/
def fnFilterWrong : ChangeSpec := { name := "fnFilter", fn := fun _ => fun
  | [d] => { results := [.lit (.bool false)], args := [d] }
  | _ => none }
def FnFilterWrongFalsely : Prop := fnFilterRow.holds Try.pinned (OpenSpec.ofChange fnFilterWrong)

/-- 'laws.FnStoreQuiet': WHATEVER THE INPUT: true; the input reads as it did. -/
def fnStoreQuietSpec : ChangeSpec := { name := "fnStoreQuiet", fn := fun _ => fun
  | [d] => { results := [.lit (.bool true)], args := [d] }
  | _ => none }
def fnStoreQuietRow : OpenClaim := { program := "yticlnmiakaelkaa", sum := "bf067f1dad4dcc1fd03b4849a19a21106c13102324f7193899156c6391df999a", func := "loop.example/g00015/laws.FnStoreQuiet", spec := "fnStoreQuiet", inPlace := ["internal/reflectlite.ValueOf", "internal/reflectlite.Swapper", "(internal/reflectlite.Value).Len"], unfollowed := true, recurses := true, plainKeys := false, apart := false }
def FnStoreQuietSaid : Prop := fnStoreQuietRow.holds Try.pinned (OpenSpec.ofChange fnStoreQuietSpec)

/-- ITS FALSE NEIGHBOUR: 'it returns false'. Refute it at one input. -/
def fnStoreQuietWrong : ChangeSpec := { name := "fnStoreQuiet", fn := fun _ => fun
  | [d] => { results := [.lit (.bool false)], args := [d] }
  | _ => none }
def FnStoreQuietWrongFalsely : Prop := fnStoreQuietRow.holds Try.pinned (OpenSpec.ofChange fnStoreQuietWrong)

/- THE SECOND FORM. 'bulk': how many values and letters a reading holds, each counted each time it is reached (what is shared counts as often as it is met; a slice's spare places count too). A statement '..UptoSaid' is the law's where the arguments, and the package variables that the reading takes, are together of bulk at most 1048576: NARROWER than '..Said'. Prove '..Said' where nothing that the law and all that it calls make is longer than what came in: it says more and counts as full. Else prove '..UptoSaid'. A law counts once. -/
mutual
def uptoBulk {H : Type} : DataW H → Nat
  | .lit (.string bytes) => bytes.length + 1
  | .lit _ => 1
  | .nil => 1
  | .ptr d => uptoBulk d + 1
  | .slice elems spare => uptoBulkAll elems + uptoBulkAll spare + 1
  | .agg parts => uptoBulkAll parts + 1
  | .iface _ d => uptoBulk d + 1
  | .map entries => uptoBulkEntries entries + 1
  | .held _ => 1
def uptoBulkAll {H : Type} : List (DataW H) → Nat
  | [] => 0
  | d :: r => uptoBulk d + uptoBulkAll r
def uptoBulkEntries {H : Type} : List (Lit × DataW H) → Nat
  | [] => 0
  | x :: r => uptoBulkEntry x + uptoBulkEntries r
def uptoBulkEntry {H : Type} : Lit × DataW H → Nat
  | (.string bytes, d) => bytes.length + uptoBulk d + 1
  | (_, d) => uptoBulk d + 1
 end
def uptoSmall : (H : Type) → List (DataW H) → Bool := fun _ ds => decide (uptoBulkAll ds ≤ 1048576)
def OpenSpec.upto (s : _root_.Go.ChangeSpec) : _root_.Go.OpenSpec := { _root_.Go.OpenSpec.ofChange s with cond := some uptoSmall }

/-- 'laws.FnFeed', WHERE WHAT IT READS IS OF BULK AT MOST 1048576: true; the input reads as it did. -/
def fnFeedUptoRow : OpenClaim := { program := "yticlnmiakaelkaa", sum := "bf067f1dad4dcc1fd03b4849a19a21106c13102324f7193899156c6391df999a", func := "loop.example/g00015/laws.FnFeed", spec := "fnFeed", inPlace := ["internal/reflectlite.ValueOf", "internal/reflectlite.Swapper", "(internal/reflectlite.Value).Len"], unfollowed := true, recurses := true, plainKeys := false, apart := false, narrowed := true }
def FnFeedUptoSaid : Prop := fnFeedUptoRow.holds Try.pinned (OpenSpec.upto fnFeedSpec)

/-- 'laws.FnExactCatalogOK', WHERE WHAT IT READS IS OF BULK AT MOST 1048576: true; the input reads as it did. -/
def fnExactCatalogOKUptoRow : OpenClaim := { program := "yticlnmiakaelkaa", sum := "bf067f1dad4dcc1fd03b4849a19a21106c13102324f7193899156c6391df999a", func := "loop.example/g00015/laws.FnExactCatalogOK", spec := "fnExactCatalogOK", inPlace := ["internal/bytealg.IndexByteString", "internal/bytealg.IndexString"], unfollowed := true, recurses := true, named := ["internal/bytealg.MaxLen"], plainKeys := false, apart := false, narrowed := true }
def FnExactCatalogOKUptoSaid : Prop := fnExactCatalogOKUptoRow.holds Try.pinned (OpenSpec.upto fnExactCatalogOKSpec)

/-- 'laws.FnExactStoreGet', WHERE WHAT IT READS IS OF BULK AT MOST 1048576: true; the input reads as it did. -/
def fnExactStoreGetUptoRow : OpenClaim := { program := "yticlnmiakaelkaa", sum := "bf067f1dad4dcc1fd03b4849a19a21106c13102324f7193899156c6391df999a", func := "loop.example/g00015/laws.FnExactStoreGet", spec := "fnExactStoreGet", inPlace := ["internal/reflectlite.ValueOf", "internal/reflectlite.Swapper", "(internal/reflectlite.Value).Len"], unfollowed := true, recurses := true, plainKeys := false, apart := false, narrowed := true }
def FnExactStoreGetUptoSaid : Prop := fnExactStoreGetUptoRow.holds Try.pinned (OpenSpec.upto fnExactStoreGetSpec)

/-- 'laws.FnExactFeedRun', WHERE WHAT IT READS IS OF BULK AT MOST 1048576: true; the input reads as it did. -/
def fnExactFeedRunUptoRow : OpenClaim := { program := "yticlnmiakaelkaa", sum := "bf067f1dad4dcc1fd03b4849a19a21106c13102324f7193899156c6391df999a", func := "loop.example/g00015/laws.FnExactFeedRun", spec := "fnExactFeedRun", inPlace := ["internal/reflectlite.ValueOf", "internal/reflectlite.Swapper", "(internal/reflectlite.Value).Len"], unfollowed := true, recurses := true, plainKeys := false, apart := false, narrowed := true }
def FnExactFeedRunUptoSaid : Prop := fnExactFeedRunUptoRow.holds Try.pinned (OpenSpec.upto fnExactFeedRunSpec)

/-- 'laws.FnExactStoreScan', WHERE WHAT IT READS IS OF BULK AT MOST 1048576: true; the input reads as it did. -/
def fnExactStoreScanUptoRow : OpenClaim := { program := "yticlnmiakaelkaa", sum := "bf067f1dad4dcc1fd03b4849a19a21106c13102324f7193899156c6391df999a", func := "loop.example/g00015/laws.FnExactStoreScan", spec := "fnExactStoreScan", inPlace := ["internal/reflectlite.ValueOf", "internal/reflectlite.Swapper", "(internal/reflectlite.Value).Len"], unfollowed := true, recurses := true, plainKeys := false, apart := false, narrowed := true }
def FnExactStoreScanUptoSaid : Prop := fnExactStoreScanUptoRow.holds Try.pinned (OpenSpec.upto fnExactStoreScanSpec)

/-- 'laws.FnExactStoreCompact', WHERE WHAT IT READS IS OF BULK AT MOST 1048576: true; the input reads as it did. -/
def fnExactStoreCompactUptoRow : OpenClaim := { program := "yticlnmiakaelkaa", sum := "bf067f1dad4dcc1fd03b4849a19a21106c13102324f7193899156c6391df999a", func := "loop.example/g00015/laws.FnExactStoreCompact", spec := "fnExactStoreCompact", inPlace := ["internal/reflectlite.ValueOf", "internal/reflectlite.Swapper", "(internal/reflectlite.Value).Len"], unfollowed := true, recurses := true, plainKeys := false, apart := false, narrowed := true }
def FnExactStoreCompactUptoSaid : Prop := fnExactStoreCompactUptoRow.holds Try.pinned (OpenSpec.upto fnExactStoreCompactSpec)

/-- 'laws.FnExactTreeOK', WHERE WHAT IT READS IS OF BULK AT MOST 1048576: true; the input reads as it did. -/
def fnExactTreeOKUptoRow : OpenClaim := { program := "yticlnmiakaelkaa", sum := "bf067f1dad4dcc1fd03b4849a19a21106c13102324f7193899156c6391df999a", func := "loop.example/g00015/laws.FnExactTreeOK", spec := "fnExactTreeOK", inPlace := ["internal/bytealg.IndexByteString", "internal/bytealg.IndexString"], unfollowed := true, recurses := true, named := ["internal/bytealg.MaxLen"], plainKeys := false, apart := false, narrowed := true }
def FnExactTreeOKUptoSaid : Prop := fnExactTreeOKUptoRow.holds Try.pinned (OpenSpec.upto fnExactTreeOKSpec)

/-- 'laws.FnExactStoreFlush', WHERE WHAT IT READS IS OF BULK AT MOST 1048576: true; the input reads as it did. -/
def fnExactStoreFlushUptoRow : OpenClaim := { program := "yticlnmiakaelkaa", sum := "bf067f1dad4dcc1fd03b4849a19a21106c13102324f7193899156c6391df999a", func := "loop.example/g00015/laws.FnExactStoreFlush", spec := "fnExactStoreFlush", inPlace := ["internal/reflectlite.ValueOf", "internal/reflectlite.Swapper", "(internal/reflectlite.Value).Len"], unfollowed := true, recurses := true, plainKeys := false, apart := false, narrowed := true }
def FnExactStoreFlushUptoSaid : Prop := fnExactStoreFlushUptoRow.holds Try.pinned (OpenSpec.upto fnExactStoreFlushSpec)

/-- 'laws.FnExactStorePut', WHERE WHAT IT READS IS OF BULK AT MOST 1048576: true; the input reads as it did. -/
def fnExactStorePutUptoRow : OpenClaim := { program := "yticlnmiakaelkaa", sum := "bf067f1dad4dcc1fd03b4849a19a21106c13102324f7193899156c6391df999a", func := "loop.example/g00015/laws.FnExactStorePut", spec := "fnExactStorePut", inPlace := ["internal/reflectlite.ValueOf", "internal/reflectlite.Swapper", "(internal/reflectlite.Value).Len"], unfollowed := true, recurses := true, plainKeys := false, apart := false, narrowed := true }
def FnExactStorePutUptoSaid : Prop := fnExactStorePutUptoRow.holds Try.pinned (OpenSpec.upto fnExactStorePutSpec)

/-- 'laws.FnExactStoreCollect', WHERE WHAT IT READS IS OF BULK AT MOST 1048576: true; the input reads as it did. -/
def fnExactStoreCollectUptoRow : OpenClaim := { program := "yticlnmiakaelkaa", sum := "bf067f1dad4dcc1fd03b4849a19a21106c13102324f7193899156c6391df999a", func := "loop.example/g00015/laws.FnExactStoreCollect", spec := "fnExactStoreCollect", inPlace := ["internal/reflectlite.ValueOf", "internal/reflectlite.Swapper", "(internal/reflectlite.Value).Len"], unfollowed := true, recurses := true, plainKeys := false, apart := false, narrowed := true }
def FnExactStoreCollectUptoSaid : Prop := fnExactStoreCollectUptoRow.holds Try.pinned (OpenSpec.upto fnExactStoreCollectSpec)

/-- 'laws.FnFilter', WHERE WHAT IT READS IS OF BULK AT MOST 1048576: true; the input reads as it did. -/
def fnFilterUptoRow : OpenClaim := { program := "yticlnmiakaelkaa", sum := "bf067f1dad4dcc1fd03b4849a19a21106c13102324f7193899156c6391df999a", func := "loop.example/g00015/laws.FnFilter", spec := "fnFilter", inPlace := ["internal/reflectlite.ValueOf", "internal/reflectlite.Swapper", "(internal/reflectlite.Value).Len"], unfollowed := true, recurses := true, plainKeys := false, apart := false, narrowed := true }
def FnFilterUptoSaid : Prop := fnFilterUptoRow.holds Try.pinned (OpenSpec.upto fnFilterSpec)

/-- 'laws.FnStoreQuiet', WHERE WHAT IT READS IS OF BULK AT MOST 1048576: true; the input reads as it did. -/
def fnStoreQuietUptoRow : OpenClaim := { program := "yticlnmiakaelkaa", sum := "bf067f1dad4dcc1fd03b4849a19a21106c13102324f7193899156c6391df999a", func := "loop.example/g00015/laws.FnStoreQuiet", spec := "fnStoreQuiet", inPlace := ["internal/reflectlite.ValueOf", "internal/reflectlite.Swapper", "(internal/reflectlite.Value).Len"], unfollowed := true, recurses := true, plainKeys := false, apart := false, narrowed := true }
def FnStoreQuietUptoSaid : Prop := fnStoreQuietUptoRow.holds Try.pinned (OpenSpec.upto fnStoreQuietSpec)

end Rows
end Go.Proofs.Yticlnmiakaelkaa
