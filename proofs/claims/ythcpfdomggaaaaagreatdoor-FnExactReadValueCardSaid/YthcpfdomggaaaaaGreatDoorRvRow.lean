/- The row. -/
import Derived.Test.YthcpfdomggaaaaaGreatDoorRv
import Derived.Test.YthcpfdomggaaaaaGreatDoorRvClose
import Derived.Test.YthcpfdomggaaaaaGreatDoorRvLib
import Derived.Test.YthcpfdomggaaaaaGreatDoorRvQA
import Derived.Test.YthcpfdomggaaaaaGreatDoorRvSm
import Derived.Test.YthcpfdomggaaaaaGreatDoorRows
import Derived.Lay
import Derived.LaidLaws
import Derived.MakeChecks
import Derived.HandedShaped
import Derived.OpenShut
import Derived.ProofKit
set_option linter.unusedVariables false
namespace Go.Ev.T1
open Go Go.Proofs Go.Shelf Go.RowKit
open Go.Proofs.YthcpfdomggaaaaaGreatDoor (Tryz.pinned)
abbrev rvLaid : List (String × DataW Unit) := YthcpfdomggaaaaaGreatDoor.Rows.fnExactReadValueRow.laid
theorem pureRow {H : Type} (x : ATs.den [.val T9]) (ds : List (DataW H)) (h : RdAll [.val T9] x ds) : ∃ k, laws_FnExactReadValue k x.1 = some true := by
  have hl := lm_laws_FnExactReadValue x.1
  rw [law_ReadValue x.1] at hl
  exact lm_some hl
theorem deep : Deep Tryz.prog Γ0 := deep_of (by kernel_rfl)
theorem tab_ok0 : TabOk Tryz.prog Γ0 := tab_of (by kernel_rfl)
theorem laidOut : laidOutB Tryz.prog = true := by kernel_rfl
theorem own : ownKnob Tryz.prog.godebug = none := by kernel_rfl
theorem laid_met (os : Os) (args : Array Value) : laidMetH Tryz.prog rvLaid ((World.laidAll Tryz.prog os rvLaid).forCall (fun _ _ => 0) ⟨#[], args, []⟩).memory := by
  rw [MakeChecks.laidMetH_plain _ _ _ (by kernel_rfl)]
  exact laidMet_laidAll _ (by kernel_rfl) (by kernel_rfl)
set_option maxRecDepth 100000 in
theorem lifted (os : Os) (started : os.Started) (H : Type) (enc : TypeId × Value → H) :
    ReturnsInHanded {} Tryz.checked os 3 .any (fun w args => (YthcpfdomggaaaaaGreatDoor.Rows.fnExactReadValueSpec.pre enc Tryz.prog Tryz.f3 [] false w args ∧ laidMetH Tryz.prog rvLaid w) ∧ sizedMet enc Tryz.prog Tryz.f3 (OpenSpec.ofChange YthcpfdomggaaaaaGreatDoor.Rows.fnExactReadValueSpec) false w args)
      (YthcpfdomggaaaaaGreatDoor.Rows.fnExactReadValueSpec.post enc Tryz.prog Tryz.f3 false true false false) := by
  refine returnsInHanded_of_calls own started (by kernel_rfl)
    (ChangeSpec.witness_shaped (enc := enc) (C := Tryz.checked) (os := os) (X := fun w _ => laidMetH Tryz.prog rvLaid w) false (World.laidAll Tryz.prog os rvLaid) #[.string ⟨#[]⟩] 8 (World.laidAll_os _ _ _)
      (World.shaped_of_ZipB (by kernel_rfl) (by kernel_rfl)) (by kernel_rfl) (by kernel_rfl) (by kernel_rfl) (laid_met os _)) ?_
  intro w tape i _ hsh _ hok hpre hholds
  obtain ⟨_, _, _, fn', hfn', _, _, _, _, hval⟩ := hok
  have e : fn' = Tryz.f3 := Option.some.inj (hfn'.symm.trans Tryz.func3)
  subst e
  obtain ⟨⟨⟨ds, gs, before, hw, hc⟩, hx⟩, hz⟩ := hpre
  have hw' := DataW.Whole.of_heap (w' := w.forCall tape i) (by rfl) hw
  have key := law_true (P := Tryz.prog) (Γ := Γ0) tab_ok0 deep laidOut (ats := [.val T9]) (fn := fun k x => laws_FnExactReadValue k x.1) (ok_laws_FnExactReadValue (stops hsh)) (f := Tryz.f3) (Tb := 4) (by kernel_rfl) (by kernel_rfl) (by rw [Tryz.params3]; exact ⟨⟨_, rfl, rfl⟩, trivial⟩)
    (by
      rw [Tryz.params3]
      intro T hT
      simp only [List.mem_cons, List.not_mem_nil, or_false] at hT
      rcases hT with rfl <;> exact ⟨by kernel_rfl, of_decide_eq_true (by kernel_rfl)⟩)
    (s := YthcpfdomggaaaaaGreatDoor.Rows.fnExactReadValueSpec) rfl hval hw'
    (by
      intro l hl
      rw [Tryz.params3] at hl
      match l, hl with
      | [d0], _ => rfl)
    (fun x hx => pureRow x ds hx) (apart := false) (fresh := true) (handsOn := false)
  refine key.mono fun e W' ⟨v, he, hp⟩ => ?_
  subst he
  exact ChangeSpec.post_blind hp
theorem said : YthcpfdomggaaaaaGreatDoor.Rows.FnExactReadValueSaid :=
  OpenClaim.holds_of_wide 3 Tryz.f3 rfl rfl rfl rfl rfl rfl rfl ⟨rfl, rfl, rfl, rfl, rfl⟩ rfl rfl rfl rfl rfl c1 Tryz.func3 c2 c3 c4 (fun os started H enc _ => lifted os started H enc)
end Go.Ev.T1
