import Derived.Test.YticlnmiakaelkaaShelf
import Derived.Test.YticlnmiakaelkaaCat1
import Derived.Test.YticlnmiakaelkaaCatClose
import Derived.Test.YticlnmiakaelkaaEvRow
import Derived.Test.YticlnmiakaelkaaCatQ7
import Derived.Test.YticlnmiakaelkaaCatSm
import Derived.Test.YticlnmiakaelkaaRows
import Derived.Shelf.Lay
import Derived.Shelf.Strings.Search3
import Derived.Shelf.LaysM
import Derived.Shelf.Strings.Shaped
import Derived.HandedShaped
import Derived.OpenShut
import Derived.ProofKit
set_option linter.unusedVariables false
namespace Go.Ev.T1
open Go Go.Proofs Go.Shelf Go.RowKit

theorem contains_ok {W : World} (h : W.ShapedOpen Try.prog) : ConOk Try.prog W 197 c_strings_Contains := by
  obtain ⟨m, hm⟩ := Try.laysM144.s1_3 W h
  intro k x r w G args hb hG hr hargs
  match args, hargs with
  | [u, v], ⟨⟨cs, ⟨s, e1, e2⟩, ha⟩, ⟨cs', ⟨t, e3, e4⟩, ha'⟩, _⟩ =>
    simp only [AsVal, Ty.isAgg] at ha ha'
    subst ha; subst ha'
    simp only [List.cons.injEq, and_true] at e1 e3
    subst e1; subst e3
    have hr' : chk (Nat.blt x.1.length 4294967281) (some (Go.Lib.contains x.1 x.2.1)) = some r := hr
    obtain ⟨h1, h2⟩ := chk_some hr'
    obtain rfl := Option.some.inj h2
    rw [← e2] at h1
    have hs : s.size < 4294967281 := by
      rw [ba_size]
      exact Nat.le_of_ble_eq_true h1
    have hlt := cell_lt hm
    have hm' : w.cell? _ = some (.int .i64 m) := (hb.cell (p := ⟨_, 0, none⟩) hlt).trans hm
    refine Calls.mono (Any.strings_Contains { Try.laysM144 with } s t m w hs hm') ?_
    rintro e w' ⟨rfl, rfl⟩
    rw [← e2, ← e4]
    exact ⟨[.bool _], rfl, .refl _ _, .bool _, rfl, [.bool _], rfl, rfl⟩
theorem stops {W : World} (h : W.ShapedOpen Try.prog) : Stops W := ⟨contains_ok h, enters' Try.func197 (by kernel_rfl)⟩

theorem pureCat {H : Type} (x : Ty.den T43) (d : DataW H) (h : Rd T43 x d) : ∃ k, laws_FnExactCatalogOK k x = some true := by
  have hs := rd_smT _ x d h
  have hl := lm_laws_FnExactCatalogOK x
  rw [law_CatalogOK x ⟨hs.1, fun y hy => smt_LTable (hs.2 y hy)⟩] at hl
  exact lm_some hl

theorem deep : Deep Try.prog Γ := deep_of (by kernel_rfl)
theorem laidOut : laidOutB Try.prog = true := by kernel_rfl
set_option maxRecDepth 100000 in
theorem lifted (os : Os) (started : os.Started) (H : Type) (enc : TypeId × Value → H) :
    ReturnsInHanded {} Try.checked os 4 .any (Yticlnmiakaelkaa.Rows.fnExactCatalogOKSpec.pre6 enc Try.prog Try.f4 Yticlnmiakaelkaa.Rows.fnExactCatalogOKRow.domain false) (Yticlnmiakaelkaa.Rows.fnExactCatalogOKSpec.post enc Try.prog Try.f4 false true false false) := by
  refine returnsInHanded_of_change_shaped (C := Try.checked) (by kernel_rfl) started (by kernel_rfl) Try.func4
    (ChangeSpec.witness6 (enc := enc) (C := Try.checked) false ⟨#[], #[.slice none 0 0], []⟩ 8 (by kernel_rfl) (by kernel_rfl) (by kernel_rfl) (by kernel_rfl)) ?_
  intro W base args ds gs before hval hW hcnd _ hsh _
  refine law_true (P := Try.prog) (Γ := Γ) tab_ok deep laidOut (ats := [.val T43]) (fn := fun k x => laws_FnExactCatalogOK k x.1) (ok_laws_FnExactCatalogOK (stops hsh)) (f := Try.f4) (Tb := 4) (by kernel_rfl) (by kernel_rfl) (by rw [Try.params4]; exact ⟨⟨_, rfl, rfl⟩, trivial⟩) ?_ rfl hval hW ?_ ?_
  · rw [Try.params4]
    intro T hT
    simp only [List.mem_singleton] at hT
    subst hT
    exact ⟨by kernel_rfl, of_decide_eq_true (by kernel_rfl)⟩
  · intro l hl
    rw [Try.params4] at hl
    match l, hl with
    | [d], _ => rfl
  · intro x hx
    match ds, hx with
    | [d], ⟨h, _⟩ => exact pureCat x.1 d h
theorem said : Yticlnmiakaelkaa.Rows.FnExactCatalogOKSaid :=
  OpenClaim.holds_of_wide 4 Try.f4 rfl rfl rfl rfl rfl rfl rfl ⟨rfl, rfl, rfl, rfl, rfl⟩ rfl rfl rfl rfl rfl c1 Try.func4 c2 c3 c4 (fun os started H enc _ => lifted os started H enc)
end Go.Ev.T1
