import Derived.Shelf.Strings.Builder1
import Derived.Shelf.Small.Strs
import Derived.Shelf.Strings.BuilderF
import Derived.Shelf.Strings.BuilderK
import Derived.Shelf.Strings.Search1
import Derived.Shelf.Strings.Search2
import Derived.Shelf.Strings.Search3
import Derived.Shelf.LaysM
import Derived.Shelf.Strings.Shaped
import Derived.Shelf.Slices.Turned
import Derived.Test.YtmigbnokhhdopaaProg
namespace Go.Proofs
open Go.Shelf
def Try.lays169_ren : Go.Shelf.Ren:=⟨fun | 169=>79 | n=>n,fun | 70=>103 | 9=>9 | 0=>0 | 72=>105 | 37=>96 | 127=>117 | 3=>3 | 5=>5 | n=>n,fun | n=>n⟩
theorem Try.lays169 : Go.Proofs.Lays.n169 Try.prog Try.lays169_ren:={
 mixed:=by kernel_rfl
 f169:=Try.func79.trans (congrArg some (by kernel_rfl))
 t0:=Try.underlying0
 a0:=Try.isAgg0
 z0:=Try.sizeOf0
 v0:=Try.zeroValue0
 t3:=Try.underlying3
 a3:=Try.isAgg3
 z3:=Try.sizeOf3
 v3:=Try.zeroValue3
 t9:=Try.underlying9
 a9:=Try.isAgg9
 z9:=Try.sizeOf9
 v9:=Try.zeroValue9
 t37:=Try.underlying96
 a37:=Try.isAgg96
 z37:=Try.sizeOf96
 v37:=Try.zeroValue96
 t70:=Try.underlying103
 a70:=Try.isAgg103
 z70:=Try.sizeOf103
 v70:=Try.zeroValue103
 t72:=Try.underlying105
 a72:=Try.isAgg105
 z72:=Try.sizeOf105
 v72:=Try.zeroValue105
 t127:=Try.underlying117
 a127:=Try.isAgg117
 z127:=Try.sizeOf117
 v127:=Try.zeroValue117 }
def Try.lays137_ren : Go.Shelf.Ren:=⟨fun | 137=>57 | 217=>75 | 266=>89 | n=>n,fun | 9=>9 | 5=>5 | 3=>3 | n=>n,fun | n=>n⟩
theorem Try.lays137 : Go.Proofs.Lays.n137 Try.prog Try.lays137_ren:={
 mixed:=by kernel_rfl
 f137:=Try.func57.trans (congrArg some (by kernel_rfl))
 f217:=Try.func75.trans (congrArg some (by kernel_rfl))
 f266:=Try.func89.trans (congrArg some (by kernel_rfl))
 t3:=Try.underlying3
 a3:=Try.isAgg3
 z3:=Try.sizeOf3
 v3:=Try.zeroValue3
 t5:=Try.underlying5
 a5:=Try.isAgg5
 z5:=Try.sizeOf5
 v5:=Try.zeroValue5
 t9:=Try.underlying9
 a9:=Try.isAgg9
 z9:=Try.sizeOf9
 v9:=Try.zeroValue9 }
def Try.laysM144_ren : Go.Shelf.Ren:=⟨fun | 144=>72 | 143=>86 | 219=>91 | 217=>75 | 225=>93 | 224=>94 | 267=>95 | 266=>89 | 314=>96 | n=>n,fun | 9=>9 | 4=>4 | 3=>3 | 5=>5 | 46=>102 | 146=>121 | 51=>120 | n=>n,fun | 1=>0 | n=>n⟩
theorem Try.laysM144 : Go.Proofs.LaysM.n144 Try.prog Try.laysM144_ren:={
 mixed:=by kernel_rfl
 f143:=Try.func86.trans (congrArg some (by kernel_rfl))
 f144:=Try.func72.trans (congrArg some (by kernel_rfl))
 f217:=Try.func75.trans (congrArg some (by kernel_rfl))
 f219:=Try.func91.trans (congrArg some (by kernel_rfl))
 f224:=Try.func94.trans (congrArg some (by kernel_rfl))
 f225:=Try.func93.trans (congrArg some (by kernel_rfl))
 f266:=Try.func89.trans (congrArg some (by kernel_rfl))
 f267:=Try.func95.trans (congrArg some (by kernel_rfl))
 f314:=Try.func96.trans (congrArg some (by kernel_rfl))
 t3:=Try.underlying3
 a3:=Try.isAgg3
 z3:=Try.sizeOf3
 v3:=Try.zeroValue3
 t4:=Try.underlying4
 a4:=Try.isAgg4
 z4:=Try.sizeOf4
 v4:=Try.zeroValue4
 t5:=Try.underlying5
 a5:=Try.isAgg5
 z5:=Try.sizeOf5
 v5:=Try.zeroValue5
 t9:=Try.underlying9
 a9:=Try.isAgg9
 z9:=Try.sizeOf9
 v9:=Try.zeroValue9
 t46:=Try.underlying102
 a46:=Try.isAgg102
 z46:=Try.sizeOf102
 v46:=Try.zeroValue102
 t51:=Try.underlying120
 a51:=Try.isAgg120
 z51:=Try.sizeOf120
 v51:=Try.zeroValue120
 t146:=Try.underlying121
 a146:=Try.isAgg121
 z146:=Try.sizeOf121
 v146:=Try.zeroValue121
 g1:=by kernel_rfl
 i3:=by kernel_rfl
 i4:=by kernel_rfl
 i5:=by kernel_rfl
 i9:=by kernel_rfl
 i46:=by kernel_rfl
 i51:=by kernel_rfl
 i146:=by kernel_rfl
 m1:=by kernel_rfl
 s1_3:=fun w h=>Go.Proofs.cell_of_shapedOpen_int (zero:=#[.int .i64 0]) (t:=3) h (of_decide_eq_true (by kernel_rfl)) (by kernel_rfl) rfl (by kernel_rfl) (by kernel_rfl) Try.underlying3 }
theorem Try.Builder_Extra_169 : Builder.Extra Try.prog Try.lays169_ren:={
 sizeBuilder:=by kernel_rfl
 liesBuilder:=by kernel_rfl
 t5:=Try.underlying5
 a5:=Try.isAgg5
 z5:=Try.sizeOf5
 v5:=Try.zeroValue5
 infoByte:=by kernel_rfl
 cellsByte:=by kernel_rfl
 sizeByte:=by kernel_rfl
 neB5:=by decide }
open Go.RowKit in
theorem Try.Builder_String_any_k (B b : Nat) (l : List UInt8) (w : World) (h : Lib.IsBuilderF 105 5 B b (Lib.byteCells l) w) (hBw : B ≤ w.heap.size) :
  Calls Try.prog 79 #[.pointer (some ⟨b,0,none⟩)] w fun e w'=>e = .returned (.string ⟨l.toArray⟩) ∧ (Lib.IsBuilderF 105 5 B b (Lib.byteCells l) w' ∧ Below B w w' ∧ Lib.OthersKept 5 (some b) w w'):=Any.Builder_String_any_k Try.lays169 Try.Builder_Extra_169 B b l w h hBw
end Go.Proofs
