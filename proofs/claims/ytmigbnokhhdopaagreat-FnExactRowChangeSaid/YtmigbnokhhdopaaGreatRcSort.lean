import Derived.Test.YtmigbnokhhdopaaGreatRc
import Derived.Test.YtmigbnokhhdopaaGreatRcKbW
import Derived.Test.YtmigbnokhhdopaaGreatRcEvG
import Derived.Shelf.Strings.Shaped
import Derived.OpenShut
import Derived.KernelRfl
set_option linter.unusedVariables false
namespace Go.Ev.T1
open Go Go.Proofs Go.Shelf Go.RowKit
theorem contains_ok {W : World} (h : W.ShapedOpen Tryz.prog) : ConOk Tryz.prog W 97 c_strings_Contains := by
 obtain ⟨m, hm⟩ := Tryz.laysM144.s1_3 W h
 intro k x r w G args hb hG hr hargs
 match args, hargs with
 | [u, v], ⟨⟨cs, ⟨s, e1, e2⟩, ha⟩, ⟨cs', ⟨t, e3, e4⟩, ha'⟩, _⟩ =>
  simp only [AsVal, Ty.isAgg] at ha ha'
  subst ha; subst ha'
  simp only [List.cons.injEq, and_true] at e1 e3
  subst e1; subst e3
  have hr' : chk (Nat.blt x.1.length 4294967281) (some (Go.Lib.contains x.1 x.2.1)) = some r := hr
  obtain ⟨h1, h2⟩ := chk_some hr'
  obtain rfl := Option.some.inj h2
  rw [← e2] at h1
  have hs : s.size < 4294967281 := by
   rw [ba_size]
   exact Nat.le_of_ble_eq_true h1
  have hlt := cell_lt hm
  have hm' : w.cell? _ = some (.int .i64 m) := (hb.cell (p := ⟨_, 0, none⟩) hlt).trans hm
  refine Calls.mono (Any.strings_Contains { Tryz.laysM144 with } s t m w hs hm') ?_
  rintro e w' ⟨rfl, rfl⟩
  rw [← e2, ← e4]
  exact ⟨[.bool _], rfl, .refl _ _, .bool _, rfl, [.bool _], rfl, rfl⟩
theorem sorts : SortsAt Tryz.prog 88 (.int .i64) (Value.int .i64) (fun l => l.mergeSort fun x y => decide (x ≤ y)) where
 one := rfl
 flat := fun w G x cs => Iff.rfl
 noInn := fun w G x cs bl => Iff.rfl
 perm := fun l => List.length_mergeSort l
 nil := by simp
 row := fun blk cap zs w hH hblk hsz => Any.slices_Sort_int Tryz.lays189 blk 0 cap zs w hH hblk hsz
 none := fun p cap w => Any.slices_Sort_int_none Tryz.lays189 p cap w
theorem stops {W : World} (h : W.ShapedOpen Tryz.prog) : Stops W :=
 ⟨⟨.gn (sortsCon_ok (T := 3) sorts) rfl, enters' Tryz.func88 (by kernel_rfl)⟩, ⟨.con (contains_ok h) rfl, enters' Tryz.func97 (by kernel_rfl)⟩, ⟨.con Go.Ev.T2.keyBytes_ok rfl, enters' Tryz.func106 (by kernel_rfl)⟩⟩
end Go.Ev.T1
