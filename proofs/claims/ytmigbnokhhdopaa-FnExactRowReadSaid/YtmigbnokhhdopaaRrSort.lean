import Derived.Test.YtmigbnokhhdopaaRr
import Derived.Test.YtmigbnokhhdopaaRrShelf
import Derived.Test.YtmigbnokhhdopaaRrKrW
import Derived.Test.YtmigbnokhhdopaaRrEvG
import Derived.Shelf.Strings.Shaped
import Derived.OpenShut
import Derived.KernelRfl
set_option linter.unusedVariables false
namespace Go.Ev.T1
open Go Go.Proofs Go.Shelf Go.RowKit
theorem contains_ok {W : World} (h : W.ShapedOpen Try.prog) : ConOk Try.prog W 72 c_strings_Contains:=by
 obtain ⟨m,hm⟩:=Try.laysM144.s1_3 W h
 intro k x r w G args hb hG hr hargs
 match args,hargs with
 | [u,v],⟨⟨cs,⟨s,e1,e2⟩,ha⟩,⟨cs',⟨t,e3,e4⟩,ha'⟩,_⟩ =>
  simp only [AsVal,Ty.isAgg] at ha ha'
  subst ha; subst ha'
  simp only [List.cons.injEq,and_true] at e1 e3
  subst e1; subst e3
  have hr' : chk (Nat.blt x.1.length 4294967281) (some (Go.Lib.contains x.1 x.2.1)) = some r:=hr
  obtain ⟨h1,h2⟩:=chk_some hr'
  obtain rfl:=Option.some.inj h2
  rw [← e2] at h1
  have hs : s.size < 4294967281:=by
   rw [ba_size]
   exact Nat.le_of_ble_eq_true h1
  have hlt:=cell_lt hm
  have hm' : w.cell? _ = some (.int .i64 m):=(hb.cell (p:=⟨_,0,none⟩) hlt).trans hm
  refine Calls.mono (Any.strings_Contains { Try.laysM144 with } s t m w hs hm') ?_
  rintro e w' ⟨rfl,rfl⟩
  rw [← e2,← e4]
  exact ⟨[.bool _],rfl, .refl _ _, .bool _,rfl,[.bool _],rfl,rfl⟩
theorem resInt {w : World} {G : Nat → Prop} (n : Int) : Res1 w G (.int .i64) n (.int .i64 n):=⟨[.int .i64 n],rfl,rfl⟩
theorem indexByte_ok {W : World} : ConOk Try.prog W 57 c_strings_IndexByte:=by
 intro k x r w G args hb hG hr hargs
 match args,hargs with
 | [u,v],⟨⟨cs,⟨s,e1,e2⟩,ha⟩,⟨cs',hc,ha'⟩,_⟩ =>
  simp only [AsVal,Ty.isAgg] at ha ha'
  subst ha; subst ha'
  have hc' : v = .int .u8 x.2.1:=by
   first
    | exact (List.cons.inj hc).1
    | exact (List.cons.inj hc.1).1
  subst hc'
  simp only [List.cons.injEq,and_true] at e1
  subst e1
  obtain rfl:=Option.some.inj (show some (Go.Lib.indexByte x.1 x.2.1.toNat.toUInt8) = some r from hr)
  refine Calls.mono (Any.strings_IndexByte Try.lays137 s x.2.1 w) ?_
  rintro e w' ⟨rfl,rfl⟩
  rw [e2]
  exact ⟨[.int .i64 _],rfl, .refl _ _,_,rfl,resInt _⟩
theorem stops {W : World} (h : W.ShapedOpen Try.prog) : Stops W :=
 ⟨⟨.con indexByte_ok rfl,enters' Try.func57 (by kernel_rfl)⟩,⟨.con (contains_ok h) rfl,enters' Try.func72 (by kernel_rfl)⟩,⟨.con Go.Ev.T2.keyBytes_ok rfl,enters' Try.func58 (by kernel_rfl)⟩⟩
end Go.Ev.T1
