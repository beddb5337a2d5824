/- The library's functions that ReadValue reaches. -/
import Derived.Test.YthcpfdomggaaaaaGreatDoorRvShelf
import Derived.Test.YthcpfdomggaaaaaGreatDoorRv
import Derived.Test.YthcpfdomggaaaaaGreatDoorEvD
import Derived.Lib.AtoiErrMem
import Derived.Lib.CountLaws
import Derived.OpenShut
import Derived.KernelRfl
set_option linter.unusedVariables false
namespace Go.Ev.T1
open Go Go.Proofs Go.Shelf Go.RowKit
theorem strArg {w : World} {G : Nat → Prop} {x : List UInt8} {v : Value} (h : Arg w G (.val .str) x v) : ∃ s : ByteArray, v = .string s ∧ s.data.toList = x := by
  obtain ⟨cs, ⟨s, e1, e2⟩, ha⟩ := h
  simp only [AsVal, Ty.isAgg] at ha
  subst ha
  simp only [List.cons.injEq, and_true] at e1
  exact ⟨s, e1, e2⟩
theorem resStr {w : World} {G : Nat → Prop} (l : List UInt8) : Res1 w G .str l (.string ⟨l.toArray⟩) := ⟨[.string ⟨l.toArray⟩], ⟨⟨l.toArray⟩, rfl, rfl⟩, rfl⟩
theorem resBool {w : World} {G : Nat → Prop} (b : Bool) : Res1 w G .bool b (.bool b) := ⟨[.bool b], rfl, rfl⟩
theorem resInt {w : World} {G : Nat → Prop} (n : Int) : Res1 w G (.int .i64) n (.int .i64 n) := ⟨[.int .i64 n], rfl, rfl⟩
theorem resNil {w : World} {G : Nat → Prop} : Res1 w G .any () .nilIface := ⟨[.nilIface], ⟨.nilIface, rfl, rfl, rfl⟩, rfl⟩
theorem drewN_below (w : World) (n : Nat) : Below w.heap.size w (w.drewN n) := ⟨rfl, rfl, rfl, Nat.le_refl _, fun _ _ => rfl⟩
variable {W : World}
theorem cutPrefix_ok : ConOk Tryz.prog W 13 c_strings_CutPrefix := by
  intro k x r w G args hb hG hr hargs
  match args, hargs with
  | [u, v], ⟨h1, h2, _⟩ =>
    obtain ⟨s, rfl, e1⟩ := strArg h1
    obtain ⟨t, rfl, e2⟩ := strArg h2
    obtain rfl := Option.some.inj hr
    refine Calls.mono (Any.strings_CutPrefix Tryz.lays103 s t w) ?_
    rintro e w' ⟨rfl, rfl⟩
    rw [e1, e2]
    exact ⟨[.string _, .bool _], rfl, .refl _ _, _, _, rfl, resStr _, _, rfl, resBool _⟩
theorem hasPrefix_ok : ConOk Tryz.prog W 16 c_strings_HasPrefix := by
  intro k x r w G args hb hG hr hargs
  match args, hargs with
  | [u, v], ⟨h1, h2, _⟩ =>
    obtain ⟨s, rfl, e1⟩ := strArg h1
    obtain ⟨t, rfl, e2⟩ := strArg h2
    obtain rfl := Option.some.inj hr
    refine Calls.mono (Any.strings_HasPrefix Tryz.lays99 s t w) ?_
    rintro e w' ⟨rfl, rfl⟩
    rw [e1, e2]
    exact ⟨[.bool _], rfl, .refl _ _, _, rfl, resBool _⟩
theorem cutSuffix_ok : ConOk Tryz.prog W 14 c_strings_CutSuffix := by
  intro k x r w G args hb hG hr hargs
  match args, hargs with
  | [u, v], ⟨h1, h2, _⟩ =>
    obtain ⟨s, rfl, e1⟩ := strArg h1
    obtain ⟨t, rfl, e2⟩ := strArg h2
    have hr' : chk (Nat.ble x.1.length 9223372036854775807) (some (Go.Lib.trimSuffix x.1 x.2.1, Go.Lib.hasSuffix x.1 x.2.1)) = some r := hr
    obtain ⟨g1, g2⟩ := chk_some hr'
    obtain rfl := Option.some.inj g2
    refine Calls.mono (Any.strings_CutSuffix Tryz.lays104 s t w (by rw [ba_size, e1]; exact Nat.le_of_ble_eq_true g1)) ?_
    rintro e w' ⟨rfl, rfl⟩
    rw [e1, e2]
    exact ⟨[.string _, .bool _], rfl, .refl _ _, _, _, rfl, resStr _, _, rfl, resBool _⟩
theorem contains_ok (h : W.ShapedOpen Tryz.prog) : ConOk Tryz.prog W 18 c_strings_Contains := by
  obtain ⟨m, hm⟩ := Tryz.laysM144.s1_3 W h
  intro k x r w G args hb hG hr hargs
  match args, hargs with
  | [u, v], ⟨h1, h2, _⟩ =>
    obtain ⟨s, rfl, e1⟩ := strArg h1
    obtain ⟨t, rfl, e2⟩ := strArg h2
    have hr' : chk (Nat.blt x.1.length 4294967281) (some (Go.Lib.contains x.1 x.2.1)) = some r := hr
    obtain ⟨g1, g2⟩ := chk_some hr'
    obtain rfl := Option.some.inj g2
    have hs : s.size < 4294967281 := by rw [ba_size, e1]; exact Nat.le_of_ble_eq_true g1
    have hm' : w.cell? _ = some (.int .i64 m) := (hb.cell (p := ⟨_, 0, none⟩) (cell_lt hm)).trans hm
    refine Calls.mono (Any.strings_Contains { Tryz.laysM144 with } s t m w hs hm') ?_
    rintro e w' ⟨rfl, rfl⟩
    rw [e1, e2]
    exact ⟨[.bool _], rfl, .refl _ _, _, rfl, resBool _⟩
theorem cut_ok (h : W.ShapedOpen Tryz.prog) : ConOk Tryz.prog W 33 c_strings_Cut := by
  obtain ⟨m, hm⟩ := Tryz.laysM145.s1_3 W h
  intro k x r w G args hb hG hr hargs
  match args, hargs with
  | [u, v], ⟨h1, h2, _⟩ =>
    obtain ⟨s, rfl, e1⟩ := strArg h1
    obtain ⟨t, rfl, e2⟩ := strArg h2
    have hr' : chk (Nat.blt x.1.length 4294967281) (some ((Go.Lib.cut x.1 x.2.1).1, (Go.Lib.cut x.1 x.2.1).2.1, (Go.Lib.cut x.1 x.2.1).2.2)) = some r := hr
    obtain ⟨g1, g2⟩ := chk_some hr'
    obtain rfl := Option.some.inj g2
    have hs : s.size < 4294967281 := by rw [ba_size, e1]; exact Nat.le_of_ble_eq_true g1
    have hm' : w.cell? _ = some (.int .i64 m) := (hb.cell (p := ⟨_, 0, none⟩) (cell_lt hm)).trans hm
    refine Calls.mono (Any.strings_Cut { Tryz.laysM145 with } s t m w hs hm') ?_
    rintro e w' ⟨rfl, n, rfl⟩
    rw [e1, e2]
    exact ⟨[.string _, .string _, .bool _], rfl, drewN_below _ _, _, _, rfl, resStr _, _, _, rfl, resStr _, _, rfl, resBool _⟩
theorem replaceAll_ok (h : W.ShapedOpen Tryz.prog) : ConOk Tryz.prog W 19 c_strings_ReplaceAll := by
  obtain ⟨m, hm⟩ := Tryz.laysM155.s1_3 W h
  intro k x r w G args hb hG hr hargs
  match args, hargs with
  | [u, v, z], ⟨h1, h2, h3, _⟩ =>
    obtain ⟨s, rfl, e1⟩ := strArg h1
    obtain ⟨t, rfl, e2⟩ := strArg h2
    obtain ⟨n, rfl, e3⟩ := strArg h3
    have hr' : chk (Nat.ble x.1.length 16777216) (chk (Nat.ble 1 x.2.1.length) (chk (Nat.ble x.2.2.1.length 1024) (some (Go.Lib.replaceAll x.1 x.2.1 x.2.2.1)))) = some r := hr
    obtain ⟨g1, g2⟩ := chk_some hr'
    obtain ⟨g3, g4⟩ := chk_some g2
    obtain ⟨g5, g6⟩ := chk_some g4
    obtain rfl := Option.some.inj g6
    have k1 := Nat.le_of_ble_eq_true g1
    have k3 := Nat.le_of_ble_eq_true g3
    have k5 := Nat.le_of_ble_eq_true g5
    have hs : s.size ≤ 16777216 := by rw [ba_size, e1]; exact k1
    have ht : 1 ≤ t.size := by rw [ba_size, e2]; exact k3
    have hn : n.size ≤ 1024 := by rw [ba_size, e3]; exact k5
    have hm' : w.cell? _ = some (.int .i64 m) := (hb.cell (p := ⟨_, 0, none⟩) (cell_lt hm)).trans hm
    have hc : Lib.countB s t ≤ s.size + 1 := by
      have := Lib.count_le s.data.toList t.data.toList
      rw [← Lib.size_eq] at this
      exact this
    have hmul : Lib.countB s t * n.size ≤ 16777217 * 1024 := Nat.mul_le_mul (by omega) hn
    refine Calls.mono (Any.strings_ReplaceAll { Tryz.laysM155 with } Tryz.Builder_Extra_M155 s t n m w (by omega) hm' ht (by omega)) ?_
    rintro e w' ⟨rfl, hbel⟩
    rw [e1, e2, e3]
    exact ⟨[.string _], rfl, hbel, _, rfl, resStr _⟩
theorem trim_ok : ConOk Tryz.prog W 41 c_strings_Trim := by
  intro k x r w G args hb hG hr hargs
  match args, hargs with
  | [u, v], ⟨h1, h2, _⟩ =>
    obtain ⟨s, rfl, e1⟩ := strArg h1
    obtain ⟨t, rfl, e2⟩ := strArg h2
    have hr' : chk (Nat.ble x.1.length 16777216) (chk (Nat.ble x.2.1.length 1024) (chk (x.2.1.all fun y => decide (y.toNat < 128)) (some (Go.Lib.trimS x.1 x.2.1)))) = some r := hr
    obtain ⟨g1, g2⟩ := chk_some hr'
    obtain ⟨g3, g4⟩ := chk_some g2
    obtain ⟨g5, g6⟩ := chk_some g4
    obtain rfl := Option.some.inj g6
    have k1 := Nat.le_of_ble_eq_true g1
    have k3 := Nat.le_of_ble_eq_true g3
    have hs : s.size ≤ 16777216 := by rw [ba_size, e1]; exact k1
    have ht : t.size ≤ 1024 := by rw [ba_size, e2]; exact k3
    refine Calls.mono (Any.strings_Trim_laid Tryz.lays160 (by kernel_rfl) s t w (by omega) (by omega) (ascii_of_all (by rw [e2]; exact g5))) ?_
    rintro e w' ⟨rfl, hbel⟩
    rw [e1, e2]
    exact ⟨[.string _], rfl, hbel, _, rfl, resStr _⟩
theorem atoi_ok : ConOk Tryz.prog W 28 c_strconv_Atoi := by
  intro k x r w G args hb hG hr hargs
  match args, hargs with
  | [u], ⟨h1, _⟩ =>
    obtain ⟨s, rfl, e1⟩ := strArg h1
    have hr' : chk (Nat.ble x.1.length 16777216) (match Go.Lib.atoiAll x.1 with | .ok v => some (v, ()) | _ => none) = some r := hr
    obtain ⟨g1, g2⟩ := chk_some hr'
    have k1 := Nat.le_of_ble_eq_true g1
    have hs : s.size ≤ 16777216 := by rw [ba_size, e1]; exact k1
    cases hv : Go.Lib.atoiAll x.1 with
    | ok v =>
      rw [hv] at g2
      obtain rfl := Option.some.inj g2
      refine Calls.mono (Any.strconv_Atoi_ok Tryz.laysC172 s (by omega) v (by rw [e1]; exact hv) w) ?_
      rintro e w' ⟨rfl, hw⟩
      refine ⟨[.int .i64 v, .nilIface], rfl, ?_, _, _, rfl, resInt v, _, rfl, resNil⟩
      rcases hw with rfl | ⟨t, rfl⟩
      · exact .refl _ _
      · exact Lib.bytesWorld_below _ _ _
    | _ => rw [hv] at g2; cases g2
theorem stops (h : W.ShapedOpen Tryz.prog) : Stops W where
  strings_Contains := ⟨contains_ok h, enters' Tryz.func18 (by kernel_rfl)⟩
  strings_CutPrefix := ⟨cutPrefix_ok, enters' Tryz.func13 (by kernel_rfl)⟩
  strings_CutSuffix := ⟨cutSuffix_ok, enters' Tryz.func14 (by kernel_rfl)⟩
  strings_HasPrefix := ⟨hasPrefix_ok, enters' Tryz.func16 (by kernel_rfl)⟩
  strings_Cut := ⟨cut_ok h, enters' Tryz.func33 (by kernel_rfl)⟩
  strings_ReplaceAll := ⟨replaceAll_ok h, enters' Tryz.func19 (by kernel_rfl)⟩
  strings_Trim := ⟨trim_ok, enters' Tryz.func41 (by kernel_rfl)⟩
  strconv_Atoi := ⟨atoi_ok, enters' Tryz.func28 (by kernel_rfl)⟩
end Go.Ev.T1
