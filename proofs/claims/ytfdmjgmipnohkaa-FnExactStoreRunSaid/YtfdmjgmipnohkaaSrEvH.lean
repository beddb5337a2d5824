import Derived.Test.YtfdmjgmipnohkaaSrEvG
import Derived.Shelf.GgSortFunc.InsertionK
import Derived.Shelf.SlSortFuncK.ComposeK
import Derived.Shelf.GgSortMore.Stable
import Derived.Test.YtfdmjgmipnohkaaSrEvD
import Derived.Shelf.GgSortFunc.SmallK
import Derived.OpenShut
import Derived.ChangeArms
import Derived.Carry
import Derived.ProofKit
import Derived.ChangeSame
set_option linter.unusedSimpArgs false
set_option linter.unusedVariables false
section
namespace Go.Proofs
open Go.Shelf Go.RowKit Go.Lib Go.Sort Go.Ev
variable {P : Program} {ρ : Ren} {α : Type} [Inhabited α]
set_option maxHeartbeats 40000000 in
set_option maxRecDepth 100000 in
theorem Sb.stable (L : LaysGt.n15 P ρ) (enc : α → List Value) (k : Nat) (hk : ∀ x, (enc x).length = k) (lt : α → α → Bool) (hlt : Weak lt) (g : Nat) (lb : Array Value) (sf : Nat) (sb : Array Value) (blk off : Nat) (d : Array α) (w : World)
  (eg : ∀ args w, (callFunc g args).run P w = .ok (.enter g args) w) (hless : LessB P g lb enc k lt blk off d.size w) (hswap : SwapSwapsK P sf sb enc k blk off d.size)
  (hH : HoldsK enc k w blk off d) (hblk : blk < w.heap.size) (hsz : d.size < 1152921504606846976) :
  Calls P (ρ.f 15) #[.agg (dat g lb sf sb), .int .i64 d.size] w fun e w' => e = .returned (.tuple #[]) ∧ SWB enc k w blk off (stab lt d.toList).toArray w' := by
 have mixed := L.mixed; have t0 := L.t0; have a0 := L.a0; have z0 := L.z0; have v0 := L.v0; have t3 := L.t3; have a3 := L.a3; have z3 := L.z3; have v3 := L.v3; have t4 := L.t4; have a4 := L.a4; have z4 := L.z4; have v4 := L.v4; have t26 := L.t26; have a26 := L.a26; have z26 := L.z26; have v26 := L.v26; have t38 := L.t38; have a38 := L.a38; have z38 := L.z38; have v38 := L.v38; have t42 := L.t42; have a42 := L.a42; have z42 := L.z42; have v42 := L.v42; have t47 := L.t47; have a47 := L.a47; have z47 := L.z47; have v47 := L.v47
 have u42 := run_underlying L.t42
 have e29 : ∀ args w, (callFunc (ρ.f 29) args).run P w = .ok (.enter (ρ.f 29) args) w := enters_of L.f29 (by kernel_rfl) rfl
 have e30 : ∀ args w, (callFunc (ρ.f 30) args).run P w = .ok (.enter (ρ.f 30) args) w := enters_of L.f30 (by kernel_rfl) rfl
 have hW1 : SWB enc k w blk off d (w.alloc (.cells (dat g lb sf sb) (ρ.t 42))) := (SWB.start hH).alloc _
 have hH1 : HoldsK enc k (w.alloc (.cells (dat g lb sf sb) (ρ.t 42))) blk off d := hW1.holds hblk hH rfl
 have hblk1 : blk < (w.alloc (.cells (dat g lb sf sb) (ρ.t 42))).heap.size := hW1.lt hblk
 have hL1 : LessB P g lb enc k lt blk off d.size (w.alloc (.cells (dat g lb sf sb) (ρ.t 42))) := hW1.lessReads hless hblk rfl
 have LI : LaysGt.n29 P ρ := { L with }
 have LM : LaysGt.n30 P ρ := { L with }
 have ins : ∀ (a b : Nat) (dk : Array α) (W : World), SWB enc k (w.alloc (.cells (dat g lb sf sb) (ρ.t 42))) blk off dk W → dk.size = d.size → a ≤ b → b ≤ d.size →
   Calls P (ρ.f 29) #[.agg (dat g lb sf sb), .int .i64 a, .int .i64 b] W fun e w' => e = .returned (.tuple #[]) ∧ SWB enc k (w.alloc (.cells (dat g lb sf sb) (ρ.t 42))) blk off (Sort.insertionSort lt dk a b) w' := fun a b dk W hS hs h1 h2 => by
  have := Sb.insertion LI enc k hk lt g lb sf sb blk off a b dk W eg (hs ▸ hS.lessReads hL1 hblk1 hs) (hs ▸ hswap) (hS.holds hblk1 hH1 hs) (hS.lt hblk1) h1 (by omega) (by omega)
  refine this.mono ?_
  rintro e w' ⟨rfl, hS2⟩
  exact ⟨rfl, y45q hblk1 hS hS2 (ins_size hlt h1 (by omega))⟩
 have sym : ∀ (a m b : Nat) (dk : Array α) (W : World), SWB enc k (w.alloc (.cells (dat g lb sf sb) (ρ.t 42))) blk off dk W → dk.size = d.size → a < m → m < b → b ≤ d.size → Srt lt (seg dk a m) → Srt lt (seg dk m b) →
   Calls P (ρ.f 30) #[.agg (dat g lb sf sb), .int .i64 a, .int .i64 m, .int .i64 b] W fun e w' => e = .returned (.tuple #[]) ∧ SWB enc k (w.alloc (.cells (dat g lb sf sb) (ρ.t 42))) blk off (mrgA lt dk a m b) w' := fun a m b dk W hS hs h1 h2 h3 h4 h5 => by
  have := Sb.symMerge LM enc k hk lt hlt g lb sf sb blk off eg (show d.size < 4611686018427387904 by omega) hswap (b - a) a m b dk W (Nat.le_refl _) hs (hS.lessReads hL1 hblk1 hs) (hS.holds hblk1 hH1 hs) (hS.lt hblk1) h1 h2 h3 h4 h5
  refine this.mono ?_
  rintro e w' ⟨rfl, hS2⟩
  exact ⟨rfl, y45q hblk1 hS hS2 (y100q lt (by omega) (by omega) (by omega))⟩
 have data : ∀ (dk : Array α) (W : World), SWB enc k (w.alloc (.cells (dat g lb sf sb) (ρ.t 42))) blk off dk W → W.cell? ⟨w.heap.size, 0, none⟩ = some (.func (.func g) #[] lb) ∧ W.cell? ⟨w.heap.size, 1, none⟩ = some (.func (.func sf) #[] sb) := fun dk W hS =>
  ⟨y14q hblk hS 0 (.func (.func g) #[] lb) (by simp), y14q hblk hS 1 (.func (.func sf) #[] sb) (by simp)⟩
 have INS : Aside _ := ins
 have SYM : Aside _ := sym
 have DATA : Aside _ := data
 have HH1 : Aside _ := hH1
 have HW1 : Aside _ := hW1
 clear ins sym data hH1 hW1 hless hswap hH hL1
 go_enter L.f15, BodyGt.n15_ntmps ρ
 go_wp2
 go_loopw [5, 6] (fun va vb wr => ∃ (a : Nat) (dk : Array α), va = .int .i64 a ∧ vb = .int .i64 ((a + 20 : Nat) : Int) ∧ a ≤ d.size ∧ dk.size = d.size ∧ SWB enc k (w.alloc (.cells (dat g lb sf sb) (ρ.t 42))) blk off dk wr ∧ Re1 lt 20 d.toList a dk) (fun va vb _ => d.size - (intOf va).toNat)
 case atStart => exact ⟨0, d, rfl, by go_num, by omega, rfl, SWB.start HH1.out, re1_start 20 d⟩
 case round =>
  obtain ⟨a, dk, rfl, rfl, ha, hsk, hS, hR⟩ := hrel
  have ⟨c0, c1⟩ := DATA.out dk wr hS
  have HS : Aside _ := hS
  have HR : Aside _ := hR
  clear hS hR
  by_cases hz : a + 20 ≤ d.size
  ·have hz' : ((a + 20 : Nat) : Int) ≤ d.size := by omega
   have hc := INS.out a (a + 20) dk wr HS.out hsk (by omega) hz
   go_wp2_with (go_at_fn (ρ.f 29); refine hc.mono ?_; rintro e w1 ⟨rfl, hS1⟩)
   go_roundw
   case rel => exact ⟨a + 20, _, rfl, by go_num, by omega, by rw [ins_size hlt (by omega) (by omega)]; exact hsk, hS1, re1_step hlt HR.out (by omega)⟩
   case measure => simp [intOf]; omega
  ·have hz' : ¬ (((a + 20 : Nat) : Int) ≤ d.size) := by omega
   have hc := INS.out a d.size dk wr HS.out hsk (by omega) (Nat.le_refl _)
   have hE := re1_end hlt HR.out (by omega)
   rw [hsk] at hE
   have HE : Aside _ := hE
   clear hE
   go_wp2_with (go_at_fn (ρ.f 29); refine hc.mono ?_; rintro e w1 ⟨rfl, hS1⟩)
   clear c0 c1 hc hz hz' HS HR
   have HS1 : Aside _ := hS1
   clear hS1
   go_loopw [4] (fun vs wr => ∃ (bs : Nat) (dk : Array α), vs = .int .i64 bs ∧ 0 < bs ∧ bs ≤ 2 * d.size + 20 ∧ dk.size = d.size ∧ SWB enc k (w.alloc (.cells (dat g lb sf sb) (ρ.t 42))) blk off dk wr ∧ Bl lt bs d.toList dk.toList) (fun vs _ => d.size - (intOf vs).toNat)
   case atStart => exact ⟨20, _, rfl, by omega, by omega, by rw [ins_size hlt (by omega) (by omega)]; exact hsk, HS1.out, HE.out⟩
   case round =>
    obtain ⟨bs, dk2, rfl, hb0, hb1, hsk2, hS2, hB⟩ := hrel
    clear HS1 HE hsk
    have HS2 : Aside _ := hS2
    have HB : Aside _ := hB
    clear hS2 hB
    by_cases hz : bs < d.size
    ·have hz' : (bs : Int) < d.size := by omega
     go_wp2
     go_loopw [5, 6] (fun va vb wr => ∃ (a : Nat) (dk : Array α), va = .int .i64 a ∧ vb = .int .i64 ((a + 2 * bs : Nat) : Int) ∧ a ≤ d.size ∧ dk.size = d.size ∧ SWB enc k (w.alloc (.cells (dat g lb sf sb) (ρ.t 42))) blk off dk wr ∧ Re2 lt bs d.toList a dk) (fun va vb _ => d.size - (intOf va).toNat)
     case atStart => exact ⟨0, dk2, rfl, by go_num, by omega, hsk2, HS2.out, re2_start HB.out⟩
     case round =>
      obtain ⟨a2, dk3, rfl, rfl, ha2, hsk3, hS3, hR3⟩ := hrel
      have ⟨c0, c1⟩ := DATA.out dk3 wr hS3
      have HS3 : Aside _ := hS3
      have HR3 : Aside _ := hR3
      clear hS3 hR3
      by_cases hy : a2 + 2 * bs ≤ d.size
      ·have hy' : ((a2 + 2 * bs : Nat) : Int) ≤ d.size := by omega
       obtain ⟨r1, r2, r3⟩ := re2_step hlt HR3.out (by omega)
       have hc := SYM.out a2 (a2 + bs) (a2 + 2 * bs) dk3 wr HS3.out hsk3 (by omega) (by omega) (by omega) r1 r2
       have R3 : Aside _ := r3
       clear r1 r2 r3
       rw [show ((a2 + bs : Nat) : Int) = (a2 : Int) + bs by omega] at hc
       go_wp2_with (go_at_fn (ρ.f 30); refine hc.mono ?_; rintro e w1 ⟨rfl, hS4⟩)
       go_roundw
       case rel => exact ⟨a2 + 2 * bs, _, rfl, by go_num, by omega, by rw [y100q lt (by omega) (by omega) (by omega)]; exact hsk3, hS4, R3.out⟩
       case measure => simp [intOf]; omega
      ·have hy' : ¬ (((a2 + 2 * bs : Nat) : Int) ≤ d.size) := by omega
       by_cases hx : a2 + bs < d.size
       ·have hx' : (a2 : Int) + bs < d.size := by omega
        obtain ⟨r1, r2, r3⟩ := re2_end hlt HR3.out (by omega) (by omega)
        rw [hsk3] at r2 r3
        have hc := SYM.out a2 (a2 + bs) d.size dk3 wr HS3.out hsk3 (by omega) (by omega) (by omega) r1 r2
        have R3 : Aside _ := r3
        clear r1 r2 r3
        rw [show ((a2 + bs : Nat) : Int) = (a2 : Int) + bs by omega] at hc
        go_wp2_with (go_at_fn (ρ.f 30); refine hc.mono ?_; rintro e w1 ⟨rfl, hS4⟩)
        go_roundw
        case rel => exact ⟨2 * bs, _, by go_num, by omega, by omega, by rw [y100q lt (by omega) (by omega) (by omega)]; exact hsk3, hS4, R3.out⟩
        case measure => simp [intOf]; omega
       ·have hx' : ¬ ((a2 : Int) + bs < d.size) := by omega
        have r3 := re2_done HR3.out (by omega)
        have R3 : Aside _ := r3
        clear r3
        go_wp2
        go_roundw
        case rel => exact ⟨2 * bs, dk3, by go_num, by omega, by omega, hsk3, HS3.out, R3.out⟩
        case measure => simp [intOf]; omega
    ·have hz' : ¬ ((bs : Int) < d.size) := by omega
     have hst := HB.out.small (by simp; omega)
     have HST : Aside _ := hst
     clear hst
     go_wp2
     go_end0
     refine ⟨rfl, ?_⟩
     have e : dk2 = (stab lt d.toList).toArray := arr_eq HST.out
     rw [← e]
     exact y45q hblk HW1.out HS2.out hsk2
end Go.Proofs
end
section
namespace Go.Ev
open Go.Shelf Go.RowKit Go.Lib Go.Sort Go.Proofs
theorem below_of_grow (w : World) (os : Array Go.Obj) : Below w.heap.size w (grow w os) := ⟨rfl, rfl, rfl, by rw [size_grow]; omega, fun k hk => by
 simp only [grow]
 rw [Array.getElem?_append, if_pos hk]⟩
theorem stableOk_of {P : Program} {ρ : Ren} (L : LaysGt.n8 P ρ) (T U : TypeId) (i ie : TypeInfo) (hu : P.underlying T = some (.slice U)) (hi : P.info? T = some i) (hd : i.desc = .slice U) (hpk : P.packed T = false) (hie : P.info? U = some ie) (ke : Nat) (hke : ∀ w, (Extern.Rtype.kind U).run P w = .ok ke w)
  (hagg : ∀ w, (isAgg U).run P w = .ok true w) (f0 f1 f9 : Nat) (hf0 : P.funcs.findIdx? (·.name == "internal/reflectlite" ++ ".Swapper$" ++ toString (swapperK 0 ie ke)) = some f0) (hf1 : P.funcs.findIdx? (·.name == "internal/reflectlite" ++ ".Swapper$" ++ toString (swapperK 1 ie ke)) = some f1)
  (hf9 : ∀ n, 2 ≤ n → P.funcs.findIdx? (·.name == "internal/reflectlite" ++ ".Swapper$" ++ toString (swapperK n ie ke)) = some f9) (gS : Bool) (hx : ∀ args W, (callFunc f9 args).run P W = ((Extern.ReflectliteSwapper.swap gS args).run P W).andThen fun v w' => .ok (.value v) w') : StableOk P (ρ.f 8) T := by
 refine ⟨⟨U, ie, hu, hie, ?_⟩, ?_⟩
 ·intro α _ enc hk h1 lt hlt g lb eg blk off c d h2 hsz w hless hH hblk
  refine Any.sort_SliceStable_of_stable L T U i ie hi hd hpk hie ke hke _ d.size c (by omega) f9 (hf9 _ h2) (.func g) #[] lb w _ ?_
  have hB : sliceBound P U ie ke (some ⟨blk, off, none⟩) d.size c = #[.slice (some ⟨blk, off, none⟩) d.size c, typeHandle P U] := by
   unfold sliceBound; rw [if_neg (swapperK_gt _ _ _ h2)]
  have hS0 : SWB enc ie.size w blk off d (stableWorld P ρ T (some ⟨blk, off, none⟩) d.size c w) := ((SWB.start hH).alloc _).alloc _
  rw [hB]
  have hp := Sb.stable (P := P) (ρ := ρ) { L with } enc ie.size hk lt hlt g lb f9 _ blk off d (stableWorld P ρ T (some ⟨blk, off, none⟩) d.size c w) eg (hS0.lessReads hless hblk rfl)
   (swapSwapsK_of_literal gS f9 hx U ie hie enc ie.size hk rfl hagg h1 blk off d.size c) (hS0.holds hblk hH rfl) (hS0.lt hblk) hsz
  refine hp.mono ?_
  rintro e w' ⟨rfl, hS⟩
  exact ⟨rfl, y45q hblk hS0 hS (by simp [y26q])⟩
 ·intro p n c hn lf la lb w
  have hf : ∃ f, P.funcs.findIdx? (·.name == "internal/reflectlite" ++ ".Swapper$" ++ toString (swapperK n ie ke)) = some f := by
   match n, hn with
   | 0, _ => exact ⟨f0, hf0⟩
   | 1, _ => exact ⟨f1, hf1⟩
  obtain ⟨f, hf⟩ := hf
  refine (Any.sort_SliceStable_tiny L T U i ie hi hd hpk hie ke hke p n c hn f hf lf la lb w).mono ?_
  rintro e w' ⟨rfl, os, rfl⟩
  exact ⟨rfl, below_of_grow w os⟩
end Go.Ev
end
section
namespace Go.Ev
theorem y17q {x : Int} (h1 : -9223372036854775808 ≤ x) (h2 : x ≤ 9223372036854775807) : IntKind.i64.wrap x = x := by
 rw [IntKind.wrap_i64]; omega
theorem br_if {ρ : Type} (p : Prop) [Decidable p] (x y : Option ρ) : br (decide p) x y = if p then x else y := by
 by_cases h : p
 ·rw [if_pos h, decide_eq_true h]; rfl
 ·rw [if_neg h, decide_eq_false h]; rfl
theorem br_b {ρ : Type} (b : Bool) (x y : Option ρ) : br b x y = if b = true then x else y := by cases b <;> rfl
theorem y2q {ρ : Type} {p : Prop} [Decidable p] (h : p) (x y : Option ρ) : br (decide p) x y = x := by rw [br_if, if_pos h]
theorem y11q {ρ : Type} {p : Prop} [Decidable p] (h : ¬ p) (x y : Option ρ) : br (decide p) x y = y := by rw [br_if, if_neg h]
def foldE {α S R X : Type} (g : Nat → α → S → S ⊕ R) (fin : S → X) (out : R → X) : List α → Nat → S → X
 | [], _, s => fin s
 | x :: r, i, s => match g i x s with
  | .inl s' => foldE g fin out r (i + 1) s'
  | .inr r => out r
theorem list_loop {α S R X : Type} (xs : List α) (z : α) (L : Nat → S → Int → Option X) (g : Nat → α → S → S ⊕ R) (fin : S → X) (out : R → X) (K : Nat) (I : Nat → S → Prop)
  (hstep : ∀ k (i : Nat) s, K ≤ k → i < xs.length → I i s → L (k + 1) s (i : Int) = (match g i (xs.getD i z) s with
   | .inl s' => L k s' ((i + 1 : Nat) : Int)
   | .inr r => some (out r)) ∧ ∀ s', g i (xs.getD i z) s = .inl s' → I (i + 1) s')
  (hend : ∀ k s, K ≤ k → I xs.length s → L (k + 1) s (xs.length : Int) = some (fin s)) :
  ∀ (n i : Nat) (s : S) (k : Nat), n + i = xs.length → K + n + 1 ≤ k → I i s → L k s (i : Int) = some (foldE g fin out (xs.drop i) i s)
 | 0, i, s, k, hn, hk, hI => by
  obtain ⟨k, rfl⟩ : ∃ k', k = k' + 1 := ⟨k - 1, by omega⟩
  have hi : i = xs.length := by omega
  subst hi
  rw [hend k s (by omega) hI, List.drop_length]
  rfl
 | n + 1, i, s, k, hn, hk, hI => by
  obtain ⟨k, rfl⟩ : ∃ k', k = k' + 1 := ⟨k - 1, by omega⟩
  have hi : i < xs.length := by omega
  obtain ⟨h1, h2⟩ := hstep k i s (by omega) hi hI
  have hd : xs.drop i = xs.getD i z :: xs.drop (i + 1) := by
   rw [List.drop_eq_getElem_cons hi]
   simp [List.getD_eq_getElem?_getD, hi]
  rw [h1, hd]
  simp only [foldE]
  cases hg : g i (xs.getD i z) s with
  | inl s' =>
   simp only
   exact list_loop xs z L g fin out K I hstep hend n (i + 1) s' k (by omega) (by omega) (h2 s' hg)
  | inr r => rfl
theorem list_loop0 {α S R X : Type} {xs : List α} (z : α) {L : Nat → S → Int → Option X} (g : Nat → α → S → S ⊕ R) (fin : S → X) (out : R → X) (K : Nat) (I : Nat → S → Prop)
  (hstep : ∀ k (i : Nat) s, K ≤ k → i < xs.length → I i s → L (k + 1) s (i : Int) = (match g i (xs.getD i z) s with
   | .inl s' => L k s' ((i + 1 : Nat) : Int)
   | .inr r => some (out r)) ∧ ∀ s', g i (xs.getD i z) s = .inl s' → I (i + 1) s')
  (hend : ∀ k s, K ≤ k → I xs.length s → L (k + 1) s (xs.length : Int) = some (fin s)) {s : S} {k : Nat} (hk : K + xs.length + 1 ≤ k) (hI : I 0 s) : L k s 0 = some (foldE g fin out xs 0 s) := by
 have := list_loop xs z L g fin out K I hstep hend xs.length 0 s k (by omega) hk hI
 simpa using this
end Go.Ev
end
section
namespace Go.Ev
def Lim {X : Type} (f : Nat → Option X) (v : Option X) : Prop := ∃ k0, ∀ k, k0 ≤ k → f k = v
section
variable {X Y Z : Type}
theorem lim_const (v : Option X) : Lim (fun _ => v) v := ⟨0, fun _ _ => rfl⟩
theorem lim_bnd {m : Nat → Option Y} {M : Option Y} {f : Nat → Y → Option X} {F : Y → Option X} (h : Lim m M) (hf : ∀ y, Lim (fun k => f k y) (F y)) : Lim (fun k => bnd (m k) (fun y => f k y)) (bnd M F) := by
 obtain ⟨k1, h1⟩ := h
 cases M with
 | none => exact ⟨k1, fun k hk => by simp only [h1 k hk]; rfl⟩
 | some y =>
  obtain ⟨k2, h2⟩ := hf y
  exact ⟨max k1 k2, fun k hk => by simp only [h1 k (by omega)]; exact h2 k (by omega)⟩
theorem lim_br {b : Bool} {f g : Nat → Option X} {F G : Option X} (hf : Lim f F) (hg : Lim g G) : Lim (fun k => br b (f k) (g k)) (br b F G) := by
 cases b
 ·exact hg
 ·exact hf
theorem lim_onSum {r : Y ⊕ Z} {f : Nat → Y → Option X} {F : Y → Option X} {g : Nat → Z → Option X} {G : Z → Option X} (hf : ∀ y, Lim (fun k => f k y) (F y)) (hg : ∀ z, Lim (fun k => g k z) (G z)) : Lim (fun k => onSum r (fun y => f k y) (fun z => g k z)) (onSum r F G) := by
 cases r with
 | inl y => exact hf y
 | inr z => exact hg z
theorem lim_succ {f : Nat → Option X} {v : Option X} (h : Lim (fun k => f (k + 1)) v) : Lim f v := by
 obtain ⟨k0, hk⟩ := h
 refine ⟨k0 + 1, fun k h => ?_⟩
 obtain ⟨j, rfl⟩ : ∃ j, k = j + 1 := ⟨k - 1, by omega⟩
 exact hk j (by omega)
theorem lim_eq {f g : Nat → Option X} {v : Option X} (h : Lim g v) (e : ∀ k, f k = g k) : Lim f v := by
 obtain ⟨k0, hk⟩ := h
 exact ⟨k0, fun k hk' => (e k).trans (hk k hk')⟩
theorem lim_some {f : Nat → Option X} {v : X} (h : Lim f (some v)) : ∃ k, f k = some v := by
 obtain ⟨k0, hk⟩ := h
 exact ⟨k0, hk k0 (Nat.le_refl _)⟩
def forN {S : Type} (B : Int → S → (S → Option X) → Option X) (E : S → Option X) : Nat → Nat → S → Option X
 | 0, _, s => E s
 | n + 1, i, s => B (i : Int) s (forN B E n (i + 1))
theorem lim_for {S : Type} {L : Nat → S → Int → Option X} {B : Int → S → (S → Option X) → Option X} {E : S → Option X} (len : Nat) (hlen : len ≤ 4611686018427387904)
  (hB : ∀ (i : Nat) s, i < len → ∀ C : S → Option X, (∀ s, Lim (fun k => L k s (IntKind.i64.wrap ((i : Int) + 1))) (C s)) → Lim (fun k => L (k + 1) s (i : Int)) (B i s C)) (hE : ∀ s, Lim (fun k => L (k + 1) s (len : Int)) (E s)) :
  ∀ (n i : Nat) (s : S), n + i = len → Lim (fun k => L k s (i : Int)) (forN B E n i s)
 | 0, i, s, h => by
  have : i = len := by omega
  subst this
  exact lim_succ (hE s)
 | n + 1, i, s, h => by
  refine lim_succ (hB i s (by omega) _ fun s' => ?_)
  have := lim_for len hlen hB hE n (i + 1) s' (by omega)
  rw [y17q (by omega) (by omega)]
  exact this
theorem lim_for0 {S : Type} {L : Nat → S → Int → Option X} {B : Int → S → (S → Option X) → Option X} {E : S → Option X} (len : Nat) (hlen : len ≤ 4611686018427387904)
  (hB : ∀ (i : Nat) s, i < len → ∀ C : S → Option X, (∀ s, Lim (fun k => L k s (IntKind.i64.wrap ((i : Int) + 1))) (C s)) → Lim (fun k => L (k + 1) s (i : Int)) (B i s C)) (hE : ∀ s, Lim (fun k => L (k + 1) s (len : Int)) (E s)) (s : S) :
  Lim (fun k => L k s 0) (forN B E len 0 s) := lim_for len hlen hB hE len 0 s (by omega)
theorem lim_br' {b : Bool} {f g : Nat → Option X} {F G : Option X} (hf : b = true → Lim f F) (hg : b = false → Lim g G) : Lim (fun k => br b (f k) (g k)) (br b F G) := by
 cases b
 ·exact hg rfl
 ·exact hf rfl
def forF {S : Type} (B : Int → S → (S → Option X) → Option X) : Nat → Nat → S → Option X
 | 0, _, _ => none
 | n + 1, i, s => B (i : Int) s (forF B n (i + 1))
theorem lim_forF {S : Type} {L : Nat → S → Int → Option X} {B : Int → S → (S → Option X) → Option X} (bound : Int) (hb : bound ≤ 4611686018427387904)
  (hB : ∀ (i : Nat) s, ∀ C : S → Option X, (∀ s, (i : Int) < bound → Lim (fun k => L k s (IntKind.i64.wrap ((i : Int) + 1))) (C s)) → Lim (fun k => L (k + 1) s (i : Int)) (B i s C)) :
  ∀ (n i : Nat) (s : S), 0 < n → bound - i < n → Lim (fun k => L k s (i : Int)) (forF B n i s)
 | 0, i, s, h, _ => absurd h (by omega)
 | n + 1, i, s, _, h => by
  refine lim_succ (hB i s _ fun s' hi => ?_)
  rw [y17q (by omega) (by omega)]
  exact lim_forF bound hb hB n (i + 1) s' (by omega) (by omega)
theorem lim_forF0 {S : Type} {L : Nat → S → Int → Option X} {B : Int → S → (S → Option X) → Option X} (bound : Int) (hb : bound ≤ 4611686018427387904)
  (hB : ∀ (i : Nat) s, ∀ C : S → Option X, (∀ s, (i : Int) < bound → Lim (fun k => L k s (IntKind.i64.wrap ((i : Int) + 1))) (C s)) → Lim (fun k => L (k + 1) s (i : Int)) (B i s C)) (s : S) :
  Lim (fun k => L k s 0) (forF B (bound.toNat + 1) 0 s) := lim_forF bound hb hB _ 0 s (by omega) (by omega)
def Holds (m : Option Y) (p : Y → Prop) : Prop := ∀ y, m = some y → p y
theorem holds_br {b : Bool} {x y : Option Y} {p : Y → Prop} (hx : Holds x p) (hy : Holds y p) : Holds (br b x y) p := by
 cases b
 ·exact hy
 ·exact hx
theorem holds_bnd {m : Option Z} {f : Z → Option Y} {p : Y → Prop} (h : ∀ z, Holds (f z) p) : Holds (bnd m f) p := by
 cases m with
 | none => intro y hy; simp [bnd] at hy
 | some z => exact h z
theorem holds_onSum {W : Type} {r : Z ⊕ W} {f : Z → Option Y} {g : W → Option Y} {p : Y → Prop} (hf : ∀ z, Holds (f z) p) (hg : ∀ z, Holds (g z) p) : Holds (onSum r f g) p := by
 cases r with
 | inl z => exact hf z
 | inr z => exact hg z
theorem holds_none {p : Y → Prop} : Holds none p := fun y h => by cases h
theorem holds_some {p : Y → Prop} {x : Y} (h : p x) : Holds (some x) p := fun y e => by cases e; exact h
theorem holds_forF {S : Type} {B : Int → S → (S → Option X) → Option X} {p : X → Prop} (h : ∀ i s C, (∀ s, Holds (C s) p) → Holds (B i s C) p) : ∀ n i s, Holds (forF B n i s) p
 | 0, _, _ => holds_none
 | n + 1, i, s => h i s _ fun s' => holds_forF h n (i + 1) s'
theorem lim_bndP {m : Nat → Option Y} {M : Option Y} {f : Nat → Y → Option X} {F : Y → Option X} (p : Y → Prop) (h : Lim m M) (hp : Holds M p) (hf : ∀ y, p y → Lim (fun k => f k y) (F y)) : Lim (fun k => bnd (m k) (fun y => f k y)) (bnd M F) := by
 obtain ⟨k1, h1⟩ := h
 cases M with
 | none => exact ⟨k1, fun k hk => by simp only [h1 k hk]; rfl⟩
 | some y =>
  obtain ⟨k2, h2⟩ := hf y (hp y rfl)
  exact ⟨max k1 k2, fun k hk => by simp only [h1 k (by omega)]; exact h2 k (by omega)⟩
theorem lim_onSum' {r : Y ⊕ Z} {f : Nat → Y → Option X} {F : Y → Option X} {g : Nat → Z → Option X} {G : Z → Option X} (hf : ∀ y, r = .inl y → Lim (fun k => f k y) (F y)) (hg : ∀ z, r = .inr z → Lim (fun k => g k z) (G z)) : Lim (fun k => onSum r (fun y => f k y) (fun z => g k z)) (onSum r F G) := by
 cases r with
 | inl y => exact hf y rfl
 | inr z => exact hg z rfl
end
end Go.Ev
end
section
namespace Go.Ev
def Lm {X : Type} (f : Nat → Option X) (v : Option X) : Prop := ∀ r, v = some r → ∃ k0, ∀ k, k0 ≤ k → f k = some r
section
variable {X Y Z : Type}
theorem y4q (v : Option X) : Lm (fun _ => v) v := fun r h => ⟨0, fun _ _ => h⟩
theorem y7q (f : Nat → Option X) : Lm f none := fun r h => by cases h
theorem y13q {m : Nat → Option Y} {M : Option Y} {f : Nat → Y → Option X} {F : Y → Option X} (h : Lm m M) (hf : ∀ y, Lm (fun k => f k y) (F y)) : Lm (fun k => bnd (m k) (fun y => f k y)) (bnd M F) := by
 intro r hr
 obtain ⟨y, hy, hr⟩ := y76q hr
 obtain ⟨k1, h1⟩ := h y hy
 obtain ⟨k2, h2⟩ := hf y r hr
 exact ⟨max k1 k2, fun k hk => by simp only [h1 k (by omega)]; exact h2 k (by omega)⟩
theorem lm_br {b : Bool} {f g : Nat → Option X} {F G : Option X} (hf : Lm f F) (hg : Lm g G) : Lm (fun k => br b (f k) (g k)) (br b F G) := by
 cases b
 ·exact hg
 ·exact hf
theorem y5q {r : Y ⊕ Z} {f : Nat → Y → Option X} {F : Y → Option X} {g : Nat → Z → Option X} {G : Z → Option X} (hf : ∀ y, Lm (fun k => f k y) (F y)) (hg : ∀ z, Lm (fun k => g k z) (G z)) : Lm (fun k => onSum r (fun y => f k y) (fun z => g k z)) (onSum r F G) := by
 cases r with
 | inl y => exact hf y
 | inr z => exact hg z
theorem lm_eq {f g : Nat → Option X} {v : Option X} (h : Lm g v) (e : ∀ k, f k = g k) : Lm f v := fun r hr => by
 obtain ⟨k0, hk⟩ := h r hr
 exact ⟨k0, fun k hk' => (e k).trans (hk k hk')⟩
theorem lm_some {f : Nat → Option X} {v : X} (h : Lm f (some v)) : ∃ k, f k = some v := by
 obtain ⟨k0, hk⟩ := h v rfl
 exact ⟨k0, hk k0 (Nat.le_refl _)⟩
def forG {S : Type} (B : S → (S → Option X) → Option X) : Nat → S → Option X
 | 0, _ => none
 | n + 1, s => B s (forG B n)
theorem y22q {S : Type} {L : Nat → S → Option X} {B : S → (S → Option X) → Option X} (hB : ∀ s (C : S → Option X), (∀ s, Lm (fun k => L k s) (C s)) → Lm (fun k => L (k + 1) s) (B s C)) : ∀ n s, Lm (fun k => L k s) (forG B n s)
 | 0, s => y7q _
 | n + 1, s => fun r hr => by
  obtain ⟨k0, hk⟩ := hB s _ (y22q hB n) r hr
  refine ⟨k0 + 1, fun k h => ?_⟩
  obtain ⟨j, rfl⟩ : ∃ j, k = j + 1 := ⟨k - 1, by omega⟩
  exact hk j (by omega)
end
end Go.Ev
end
section
namespace Go.Ev
def tuples {α : Type} (xs : List α) : Nat → List (List α)
 | 0 => [[]]
 | n + 1 => (tuples xs n).flatMap fun l => xs.map fun x => x :: l
theorem mem_tuples {α : Type} {xs : List α} : ∀ (n : Nat) (ys : List α), ys.length = n → (∀ y ∈ ys, y ∈ xs) → ys ∈ tuples xs n
 | 0, ys, h, _ => by
  have := List.eq_nil_of_length_eq_zero h
  subst this
  simp [tuples]
 | n + 1, [], h, _ => by simp at h
 | n + 1, y :: ys, h, hm => by
  simp only [tuples, List.mem_flatMap, List.mem_map]
  exact ⟨ys, mem_tuples n ys (by simpa using h) (fun z hz => hm z (by simp [hz])), y, hm y (by simp), rfl⟩
theorem max_all {β : Type} {Q : Nat → β → Prop} : ∀ (l : List β), (∀ b ∈ l, ∃ k0, ∀ k, k0 ≤ k → Q k b) → ∃ k0, ∀ k, k0 ≤ k → ∀ b ∈ l, Q k b
 | [], _ => ⟨0, fun _ _ b hb => by simp at hb⟩
 | b :: l, h => by
  obtain ⟨k1, h1⟩ := h b (by simp)
  obtain ⟨k2, h2⟩ := max_all l fun c hc => h c (by simp [hc])
  refine ⟨max k1 k2, fun k hk c hc => ?_⟩
  rcases List.mem_cons.1 hc with rfl | hc
  ·exact h1 k (by omega)
  ·exact h2 k (by omega) c hc
theorem lm_srt {α : Type} {z : α} {less : Nat → List α → Int → Int → Option Bool} {L : List α → Int → Int → Option Bool} {xs : List α} (h : ∀ ys i j, Lm (fun k => less k ys i j) (L ys i j)) : Lm (fun k => srt z (fun ys i j => less k ys i j) xs) (srt z (fun ys i j => L ys i j) xs) := by
 intro r hr
 by_cases h1 : xs.length ≤ 1
 ·rw [srt_small h1] at hr
  exact ⟨0, fun k _ => by simp only [srt_small h1, hr]⟩
 ·obtain ⟨lt, hok, rfl⟩ := srt_some hr h1
  have hall : ∃ k0, ∀ k, k0 ≤ k → ∀ b ∈ tuples xs xs.length, ∀ i ∈ List.range xs.length, ∀ j ∈ List.range xs.length, less k b (i : Nat) (j : Nat) = some (lt (b.getD i z) (b.getD j z)) ∨ ¬ (b.length = xs.length ∧ ∀ y ∈ b, y ∈ xs) := by
   refine max_all _ fun b hb => ?_
   by_cases hg : b.length = xs.length ∧ ∀ y ∈ b, y ∈ xs
   ·refine (max_all (Q := fun k (i : Nat) => ∀ j ∈ List.range xs.length, less k b (i : Nat) (j : Nat) = some (lt (b.getD i z) (b.getD j z)) ∨ ¬ (b.length = xs.length ∧ ∀ y ∈ b, y ∈ xs)) (List.range xs.length) fun i hi => ?_)
    refine (max_all (Q := fun k (j : Nat) => less k b (i : Nat) (j : Nat) = some (lt (b.getD i z) (b.getD j z)) ∨ ¬ (b.length = xs.length ∧ ∀ y ∈ b, y ∈ xs)) (List.range xs.length) fun j hj => ?_)
    obtain ⟨k0, hk0⟩ := h b i j _ (hok.2 b hg.1 hg.2 i j (List.mem_range.1 hi) (List.mem_range.1 hj))
    exact ⟨k0, fun k hk => .inl (hk0 k hk)⟩
   ·exact ⟨0, fun k _ i _ j _ => .inr hg⟩
  obtain ⟨k0, hk0⟩ := hall
  refine ⟨k0, fun k hk => ?_⟩
  refine srt_eq ⟨hok.1, fun ys hy hm i j hi hj => ?_⟩
  rcases hk0 k hk ys (mem_tuples _ ys hy hm) i (List.mem_range.2 hi) j (List.mem_range.2 hj) with h | h
  ·exact h
  ·exact absurd ⟨hy, hm⟩ h
end Go.Ev
end
section
namespace Go.Ev
theorem forG_fold {α S R X T : Type} (xs : List α) (z : α) {B : T → (T → Option X) → Option X} (emb : Int → S → T) (g : Nat → α → S → S ⊕ R) (fin : S → X) (out : R → X) (I : Nat → S → Prop)
  (hstep : ∀ (i : Nat) s C, i < xs.length → I i s → B (emb (i : Int) s) C = (match g i (xs.getD i z) s with
   | .inl s' => C (emb ((i + 1 : Nat) : Int) s')
   | .inr r => some (out r)) ∧ ∀ s', g i (xs.getD i z) s = .inl s' → I (i + 1) s')
  (hend : ∀ s C, I xs.length s → B (emb (xs.length : Int) s) C = some (fin s)) :
  ∀ (n i : Nat) (s : S), i ≤ xs.length → xs.length < n + i → I i s → forG B n (emb (i : Int) s) = some (foldE g fin out (xs.drop i) i s)
 | 0, i, s, h1, h2, _ => absurd h1 (by omega)
 | n + 1, i, s, h1, h2, hI => by
  simp only [forG]
  by_cases hi : i < xs.length
  ·obtain ⟨e1, e2⟩ := hstep i s (forG B n) hi hI
   have hd : xs.drop i = xs.getD i z :: xs.drop (i + 1) := by
    rw [List.drop_eq_getElem_cons hi]
    simp [List.getD_eq_getElem?_getD, hi]
   rw [e1, hd]
   simp only [foldE]
   cases hg : g i (xs.getD i z) s with
   | inl s' => exact forG_fold xs z emb g fin out I hstep hend n (i + 1) s' (by omega) (by omega) (e2 s' hg)
   | inr r => rfl
  ·have : i = xs.length := by omega
   subst this
   rw [hend s _ hI, List.drop_length]
   rfl
theorem forG_fold0 {α S R X T : Type} {xs : List α} (z : α) {B : T → (T → Option X) → Option X} (emb : Int → S → T) (g : Nat → α → S → S ⊕ R) (fin : S → X) (out : R → X) (I : Nat → S → Prop)
  (hstep : ∀ (i : Nat) s C, i < xs.length → I i s → B (emb (i : Int) s) C = (match g i (xs.getD i z) s with
   | .inl s' => C (emb ((i + 1 : Nat) : Int) s')
   | .inr r => some (out r)) ∧ ∀ s', g i (xs.getD i z) s = .inl s' → I (i + 1) s')
  (hend : ∀ s C, I xs.length s → B (emb (xs.length : Int) s) C = some (fin s)) {n : Nat} {s : S} (hn : xs.length < n) (hI : I 0 s) : forG B n (emb 0 s) = some (foldE g fin out xs 0 s) := by
 have := forG_fold xs z emb g fin out I hstep hend n 0 s (Nat.zero_le _) (by omega) hI
 simpa using this
theorem foldE_onSum {α S R A C Y : Type} (g : Nat → α → S → S ⊕ R) (fin : S → A) (out : R → C) (f : A → Option Y) (h : C → Option Y) : ∀ (xs : List α) (i : Nat) (s : S),
  onSum (foldE g (fun s => (.inl (fin s) : A ⊕ C)) (fun r => .inr (out r)) xs i s) f h = foldE g (fun s => f (fin s)) (fun r => h (out r)) xs i s
 | [], _, _ => rfl
 | x :: r, i, s => by
  simp only [foldE]
  cases g i x s with
  | inl s' => exact foldE_onSum g fin out f h r (i + 1) s'
  | inr r => rfl
theorem foldE_map {α S R X Y : Type} (g : Nat → α → S → S ⊕ R) (fin : S → X) (out : R → X) (h : X → Y) : ∀ (xs : List α) (i : Nat) (s : S), foldE g (fun s => h (fin s)) (fun r => h (out r)) xs i s = h (foldE g fin out xs i s)
 | [], _, _ => rfl
 | x :: r, i, s => by
  simp only [foldE]
  cases g i x s with
  | inl s' => exact foldE_map g fin out h r (i + 1) s'
  | inr r => rfl
end Go.Ev
end
section
namespace Go.Ev
def Ans {X : Type} (m yes no : Option X) (P : Prop) : Prop := (P → m = yes) ∧ (¬ P → m = no)
section
variable {X Y A B : Type} {m x y yes no : Option X} {P Q R c : Prop} [Decidable c]
theorem ans_yes : Ans yes yes no True := ⟨fun _ => rfl, fun h => absurd trivial h⟩
theorem ans_end (h : m = yes) : Ans m yes no True := ⟨fun _ => h, fun h' => absurd trivial h'⟩
theorem ans_no : Ans no yes no False := ⟨fun h => h.elim, fun _ => rfl⟩
theorem y41q (h : Ans m yes no P) (e : P ↔ Q) : Ans m yes no Q := ⟨fun q => h.1 (e.2 q), fun q => h.2 fun p => q (e.1 p)⟩
theorem ans_dec {b : Bool} : Ans (some b) (some true) (some false) (b = true) := by cases b <;> exact ⟨fun h => by simp at h ⊢, fun h => by simp at h ⊢⟩
theorem ans_decide : Ans (some (decide c)) (some true) (some false) c := ⟨fun h => by rw [decide_eq_true h], fun h => by rw [decide_eq_false h]⟩
theorem ans_ndecide : Ans (some (!decide c)) (some true) (some false) (¬ c) := ⟨fun h => by rw [decide_eq_false h]; rfl, fun h => by rw [decide_eq_true (Classical.not_not.1 h)]; rfl⟩
theorem y19q (hc : c) (h : Ans x yes no P) : Ans (br (decide c) x y) yes no P := by rw [y2q hc]; exact h
theorem ans_chkn (hc : ¬ c) (h : Ans y yes no P) : Ans (br (decide c) x y) yes no P := by rw [y11q hc]; exact h
theorem y55q (h : ¬ c → Ans x yes no P) : Ans (br (decide c) no x) yes no (¬ c ∧ P) := by
 by_cases hc : c
 ·rw [y2q hc]; exact ⟨fun h => absurd hc h.1, fun _ => rfl⟩
 ·rw [y11q hc]; exact y41q (h hc) ⟨fun h => ⟨hc, h⟩, fun h => h.2⟩
theorem y34q (h : c → Ans x yes no P) : Ans (br (decide c) x no) yes no (c ∧ P) := by
 by_cases hc : c
 ·rw [y2q hc]; exact y41q (h hc) ⟨fun h => ⟨hc, h⟩, fun h => h.2⟩
 ·rw [y11q hc]; exact ⟨fun h => absurd h.1 hc, fun _ => rfl⟩
theorem ans_br_yes (h : ¬ c → Ans x yes no P) : Ans (br (decide c) yes x) yes no (c ∨ P) := by
 by_cases hc : c
 ·rw [y2q hc]; exact ⟨fun _ => rfl, fun h => absurd (.inl hc) h⟩
 ·rw [y11q hc]; exact y41q (h hc) ⟨.inr, fun h => h.resolve_left hc⟩
theorem ans_br_yes' (h : c → Ans x yes no P) : Ans (br (decide c) x yes) yes no (c → P) := by
 by_cases hc : c
 ·rw [y2q hc]; exact y41q (h hc) ⟨fun h _ => h, fun h => h hc⟩
 ·rw [y11q hc]; exact ⟨fun _ => rfl, fun h => absurd (fun h' => absurd h' hc) h⟩
theorem ans_br (h : c → Ans x yes no P) (k : ¬ c → Ans y yes no Q) : Ans (br (decide c) x y) yes no ((c → P) ∧ (¬ c → Q)) := by
 by_cases hc : c
 ·rw [y2q hc]; exact y41q (h hc) ⟨fun h => ⟨fun _ => h, fun h' => absurd hc h'⟩, fun h => h.1 hc⟩
 ·rw [y11q hc]; exact y41q (k hc) ⟨fun h => ⟨fun h' => absurd h' hc, fun _ => h⟩, fun h => h.2 hc⟩
theorem ans_brt (h : Ans x yes no P) : Ans (br true x y) yes no P := h
theorem ans_brf (h : Ans y yes no P) : Ans (br false x y) yes no P := h
theorem br_swap (b : Bool) (x y : Option X) : br (!b) x y = br b y x := by cases b <;> rfl
theorem br_bool (b : Bool) (x y : Option X) : br b x y = br (decide (b = true)) x y := by cases b <;> rfl
theorem ans_bool_no {b : Bool} (h : ¬ b = true → Ans x yes no P) : Ans (br b no x) yes no (¬ b = true ∧ P) := by rw [br_bool]; exact y55q h
theorem ans_bool_no' {b : Bool} (h : b = true → Ans x yes no P) : Ans (br b x no) yes no (b = true ∧ P) := by rw [br_bool]; exact y34q h
theorem ans_bool_yes {b : Bool} (h : ¬ b = true → Ans x yes no P) : Ans (br b yes x) yes no (b = true ∨ P) := by rw [br_bool]; exact ans_br_yes h
theorem ans_bool_yes' {b : Bool} (h : b = true → Ans x yes no P) : Ans (br b x yes) yes no (b = true → P) := by rw [br_bool]; exact ans_br_yes' h
theorem ans_bool {b : Bool} (h : b = true → Ans x yes no P) (k : ¬ b = true → Ans y yes no Q) : Ans (br b x y) yes no ((b = true → P) ∧ (¬ b = true → Q)) := by rw [br_bool]; exact ans_br h k
theorem ans_bnd {mm : Option Y} {a b : Y} {f : Y → Option X} (h : Ans mm (some a) (some b) P) (h1 : P → Ans (f a) yes no Q) (h2 : ¬ P → Ans (f b) yes no R) : Ans (bnd mm f) yes no ((P → Q) ∧ (¬ P → R)) := by
 by_cases hp : P
 ·rw [h.1 hp]; exact y41q (h1 hp) ⟨fun h => ⟨fun _ => h, fun h' => absurd hp h'⟩, fun h => h.1 hp⟩
 ·rw [h.2 hp]; exact y41q (h2 hp) ⟨fun h => ⟨fun h' => absurd h' hp, fun _ => h⟩, fun h => h.2 hp⟩
theorem y42q {mm : Option Y} {a b : Y} {f : Y → Option X} (h : Ans mm (some a) (some b) P) (h2 : f b = no) (h1 : P → Ans (f a) yes no Q) : Ans (bnd mm f) yes no (P ∧ Q) := by
 by_cases hp : P
 ·rw [h.1 hp]; exact y41q (h1 hp) ⟨fun h => ⟨hp, h⟩, fun h => h.2⟩
 ·rw [h.2 hp]; exact ⟨fun h => absurd h.1 hp, fun _ => h2⟩
theorem ans_bnd_no' {mm : Option Y} {a b : Y} {f : Y → Option X} (h : Ans mm (some a) (some b) P) (h2 : f a = no) (h1 : ¬ P → Ans (f b) yes no Q) : Ans (bnd mm f) yes no (¬ P ∧ Q) := by
 by_cases hp : P
 ·rw [h.1 hp]; exact ⟨fun h => absurd hp h.1, fun _ => h2⟩
 ·rw [h.2 hp]; exact y41q (h1 hp) ⟨fun h => ⟨hp, h⟩, fun h => h.2⟩
theorem ans_bnd_yes {mm : Option Y} {a b : Y} {f : Y → Option X} (h : Ans mm (some a) (some b) P) (h2 : f a = yes) (h1 : ¬ P → Ans (f b) yes no Q) : Ans (bnd mm f) yes no (P ∨ Q) := by
 by_cases hp : P
 ·rw [h.1 hp]; exact ⟨fun _ => h2, fun h => absurd (.inl hp) h⟩
 ·rw [h.2 hp]; exact y41q (h1 hp) ⟨.inr, fun h => h.resolve_left hp⟩
theorem ans_bnd_yes' {mm : Option Y} {a b : Y} {f : Y → Option X} (h : Ans mm (some a) (some b) P) (h2 : f b = yes) (h1 : P → Ans (f a) yes no Q) : Ans (bnd mm f) yes no (P → Q) := by
 by_cases hp : P
 ·rw [h.1 hp]; exact y41q (h1 hp) ⟨fun h _ => h, fun h => h hp⟩
 ·rw [h.2 hp]; exact ⟨fun _ => h2, fun h => absurd (fun h' => absurd h' hp) h⟩
theorem ans_bnd_end {mm : Option Y} {a b : Y} {f : Y → Option X} (h : Ans mm (some a) (some b) P) (h1 : f a = yes) (h2 : f b = no) : Ans (bnd mm f) yes no P := by
 by_cases hp : P
 ·rw [h.1 hp]; exact ⟨fun _ => h1, fun h => absurd hp h⟩
 ·rw [h.2 hp]; exact ⟨fun h => absurd h hp, fun _ => h2⟩
theorem ans_bnd_end' {mm : Option Y} {a b : Y} {f : Y → Option X} (h : Ans mm (some a) (some b) P) (h1 : f a = no) (h2 : f b = yes) : Ans (bnd mm f) yes no (¬ P) := by
 by_cases hp : P
 ·rw [h.1 hp]; exact ⟨fun h => absurd hp h, fun _ => h1⟩
 ·rw [h.2 hp]; exact ⟨fun _ => h2, fun h => absurd hp h⟩
theorem ans_val {mm : Option Y} {v : Y} {f : Y → Option X} (h : mm = some v) (h1 : Ans (f v) yes no Q) : Ans (bnd mm f) yes no Q := by rw [h]; exact h1
theorem y127q {mm : Option Y} {v : Y} {f : Y → Option X} (h : mm = some v) : bnd mm f = f v := by rw [h]; rfl
theorem ans_not {m : Option Bool} (h : Ans m (some true) (some false) P) : Ans m (some false) (some true) (¬ P) := ⟨fun hp => h.2 hp, fun hp => h.1 (Classical.not_not.1 hp)⟩
theorem ans_eq {m m' : Option X} (h : Ans m yes no P) (h' : Ans m' yes no Q) (e : P ↔ Q) : m = m' := by
 by_cases hp : P
 ·rw [h.1 hp, h'.1 (e.1 hp)]
 ·rw [h.2 hp, h'.2 fun q => hp (e.2 q)]
theorem ans_total {m : Option Bool} (h : Ans m (some true) (some false) P) : ∃ b : Bool, m = some b ∧ (b = true ↔ P) := by
 by_cases hp : P
 ·exact ⟨true, h.1 hp, by simp [hp]⟩
 ·exact ⟨false, h.2 hp, by simp [hp]⟩
theorem ans_rounds {T : Type} {B : T → (T → Option X) → Option X} (emb : Nat → T) (N : Nat) (p : Nat → Prop)
  (hstep : ∀ i C, i < N → (∀ j, j < i → p j) → Ans (B (emb i) C) (C (emb (i + 1))) no (p i)) (hend : ∀ C, (∀ j, j < N → p j) → B (emb N) C = yes) :
  ∀ n i, i ≤ N → N < n + i → (∀ j, j < i → p j) → Ans (forG B n (emb i)) yes no (∀ j, i ≤ j → j < N → p j)
 | 0, i, h1, h2, _ => absurd h1 (by omega)
 | n + 1, i, h1, h2, h3 => by
  simp only [forG]
  by_cases hi : i < N
  ·have hs := hstep i (forG B n) hi h3
   by_cases hp : p i
   ·rw [hs.1 hp]
    refine y41q (ans_rounds emb N p hstep hend n (i + 1) hi (by omega) fun j hj => ?_) ⟨fun h j hj hN => ?_, fun h j hj hN => h j (by omega) hN⟩
    ·rcases Nat.lt_or_ge j i with h | h
     ·exact h3 j h
     ·have : j = i := by omega
      subst this; exact hp
    ·rcases Nat.eq_or_lt_of_le hj with h' | h'
     ·subst h'; exact hp
     ·exact h j h' hN
   ·rw [hs.2 hp]
    exact ⟨fun h => absurd (h i (Nat.le_refl _) hi) hp, fun _ => rfl⟩
  ·have : i = N := by omega
   subst this
   rw [hend _ h3]
   exact ⟨fun _ => rfl, fun h => absurd (fun j hj hN => absurd hj (by omega)) h⟩
theorem ans_loop {T : Type} {B : T → (T → Option X) → Option X} (emb : Nat → T) (N : Nat) (p : Nat → Prop)
  (hstep : ∀ i C, i < N → (∀ j, j < i → p j) → Ans (B (emb i) C) (C (emb (i + 1))) no (p i)) (hend : ∀ C, (∀ j, j < N → p j) → B (emb N) C = yes) {n : Nat} (hn : N < n) :
  Ans (forG B n (emb 0)) yes no (∀ j, j < N → p j) :=
 y41q (ans_rounds emb N p hstep hend n 0 (Nat.zero_le _) (by omega) fun j hj => absurd hj (by omega)) ⟨fun h j hj => h j (Nat.zero_le _) hj, fun h j _ hj => h j hj⟩
theorem y9q {i : Nat} (h : i < 9223372036854775807) : IntKind.i64.wrap ((i : Int) + 1) = ((i + 1 : Nat) : Int) := by rw [y17q (by omega) (by omega)]; omega
theorem y57q {α : Type} [BEq α] [LawfulBEq α] [DecidableEq α] (a b : α) : (a == b) = decide (a = b) := by
 by_cases h : a = b
 ·subst h; simp
 ·rw [decide_eq_false h]; simpa using h
theorem bne_dec {α : Type} [BEq α] [LawfulBEq α] [DecidableEq α] (a b : α) : (a != b) = decide (¬ a = b) := by
 unfold bne; rw [y57q]; simp
theorem not_dec : (!decide c) = decide (¬ c) := by simp
end
theorem eqI_dec (a b : Int) : eqI a b = decide (a = b) := y57q a b
theorem eqB_dec (a b : Bool) : eqB a b = decide (a = b) := y57q a b
theorem eqS_dec (a b : List UInt8) : eqS a b = decide (a = b) := y57q a b
theorem andB_dec (p q : Prop) [Decidable p] [Decidable q] : andB (decide p) (decide q) = decide (p ∧ q) := by simp [andB]
theorem andB_true (a : Bool) : andB a true = a := by simp [andB]
def idx {α : Type} (p : α → Bool) (xs : List α) : Int := if xs.findIdx p < xs.length then (xs.findIdx p : Int) else -1
section
variable {α : Type} {p : α → Bool} {xs : List α}
theorem idx_neg : idx p xs < 0 ↔ ∀ x ∈ xs, p x = false := by
 unfold idx
 split
 ·rename_i h
  refine ⟨fun h' => absurd h' (by omega), fun h' => ?_⟩
  have := List.findIdx_getElem (p := p) (w := h)
  rw [h' _ (List.getElem_mem h)] at this
  cases this
 ·rename_i h
  refine ⟨fun _ x hx => ?_, fun _ => by omega⟩
  cases hpx : p x with
  | false => rfl
  | true => exact absurd (List.findIdx_lt_length.2 ⟨x, hx, hpx⟩) h
theorem idx_lt : idx p xs < xs.length := by
 unfold idx
 split <;> omega
theorem idx_ge : -1 ≤ idx p xs := by
 unfold idx
 split <;> omega
theorem idx_eq {i : Nat} : idx p xs = (i : Int) ↔ ∃ h : i < xs.length, p xs[i] = true ∧ ∀ j (hj : j < i), p (xs[j]'(by omega)) = false := by
 unfold idx
 split
 ·rename_i h
  constructor
  ·intro e
   have e : xs.findIdx p = i := by omega
   subst e
   exact ⟨h, List.findIdx_getElem, fun j hj => by simpa using List.not_of_lt_findIdx hj⟩
  ·rintro ⟨h1, h2, h3⟩
   have : xs.findIdx p = i := (List.findIdx_eq h1).2 ⟨h2, h3⟩
   omega
 ·rename_i h
  refine ⟨fun e => by omega, fun ⟨h1, h2, _⟩ => absurd (List.findIdx_lt_length.2 ⟨_, List.getElem_mem h1, h2⟩) h⟩
theorem idx_rounds {T X : Type} {z : α} {B : T → (T → Option X) → Option X} (emb : Nat → T) (out : Nat → X) (fin : X)
  (hstep : ∀ i C, i < xs.length → B (emb i) C = if p (xs.getD i z) = true then some (out i) else C (emb (i + 1))) (hend : ∀ C, B (emb xs.length) C = some fin) :
  ∀ n i, i ≤ xs.length → xs.length < n + i → (∀ j (hj : j < xs.length), j < i → p xs[j] = false) → forG B n (emb i) = some (if xs.findIdx p < xs.length then out (xs.findIdx p) else fin)
 | 0, i, h1, h2, _ => absurd h1 (by omega)
 | n + 1, i, h1, h2, h3 => by
  simp only [forG]
  by_cases hi : i < xs.length
  ·rw [hstep i _ hi]
   have hg : xs.getD i z = xs[i] := by simp [List.getD_eq_getElem?_getD, hi]
   rw [hg]
   by_cases hp : p xs[i] = true
   ·have : xs.findIdx p = i := (List.findIdx_eq hi).2 ⟨hp, fun j hj => h3 j (by omega) hj⟩
    rw [if_pos hp, this, if_pos hi]
   ·rw [if_neg hp]
    refine idx_rounds emb out fin hstep hend n (i + 1) hi (by omega) fun j hj hji => ?_
    rcases Nat.lt_or_ge j i with h | h
    ·exact h3 j hj h
    ·have : j = i := by omega
     subst this; simpa using hp
  ·have : i = xs.length := by omega
   subst this
   have hno : ¬ xs.findIdx p < xs.length := fun h => by
    have h4 := List.findIdx_getElem (p := p) (w := h)
    rw [h3 _ h h] at h4; cases h4
   rw [hend, if_neg hno]
theorem idx_loop {T X : Type} {z : α} {B : T → (T → Option X) → Option X} (emb : Nat → T) (out : Nat → X) (fin : X)
  (hstep : ∀ i C, i < xs.length → B (emb i) C = if p (xs.getD i z) = true then some (out i) else C (emb (i + 1))) (hend : ∀ C, B (emb xs.length) C = some fin) {n : Nat} (hn : xs.length < n) :
  forG B n (emb 0) = some (if xs.findIdx p < xs.length then out (xs.findIdx p) else fin) :=
 idx_rounds emb out fin hstep hend n 0 (Nat.zero_le _) (by omega) fun j hj h => absurd h (by omega)
end
end Go.Ev
end
section
namespace Go.Ev
def Rng (k : IntKind) (n : Int) : Prop := (Lit.int k n).wf = true
def SzR (m : Option Int) (S : Prop) : Prop := ∃ r, m = some r ∧ (r = -1 ∨ (0 ≤ r ∧ r ≤ 1048576 ∧ S))
theorem sz_less {b c : Int} {n : Nat} (hw : IntKind.i64.wrap (b - (n : Int)) = c) (h0 : 0 ≤ b) (h1 : b ≤ 1048576) (hn : n ≤ maxLen) : c < 0 ∨ (0 ≤ c ∧ c ≤ 1048576 ∧ n ≤ 1048576) := by
 simp only [maxLen] at hn
 rw [y17q (by omega) (by omega)] at hw
 omega
theorem szr_and {m : Option Int} {A B : Prop} (a : A) (h : SzR m B) : SzR m (A ∧ B) := by
 obtain ⟨r, e, h⟩ := h
 exact ⟨r, e, h.imp id fun ⟨h0, h1, h2⟩ => ⟨h0, h1, a, h2⟩⟩
theorem mem_getD {α : Type} {xs : List α} {z : α} {i : Nat} (hi : i < xs.length) : xs.getD i z ∈ xs := by
 rw [List.getD_eq_getElem?_getD, List.getElem?_eq_getElem hi]; exact List.getElem_mem hi
theorem sz_loop {α : Type} {xs : List α} (z : α) {B : List α × Int × Int → (List α × Int × Int → Option (Int ⊕ Int)) → Option (Int ⊕ Int)} {E : α → Prop}
  (hB : ∀ (i : Nat) (s : Int) C, i < xs.length → 0 ≤ s → s ≤ 1048576 → ∃ r, (r = -1 ∨ (0 ≤ r ∧ r ≤ 1048576 ∧ E (xs.getD i z))) ∧ B (xs, s, (i : Int)) C = if r < 0 then some (.inr (-1)) else C (xs, r, ((i + 1 : Nat) : Int)))
  (hEnd : ∀ (s : Int) C, B (xs, s, (xs.length : Int)) C = some (.inl s)) (b : Int) (h0 : 0 ≤ b) (h1 : b ≤ 1048576) {n : Nat} (hn : xs.length < n) :
  SzR (bnd (forG B n (xs, b, 0)) fun y1 => onSum y1 (fun y2 => some y2) fun y2 => some y2) (∀ y ∈ xs, E y) := by
 have key : ∀ n i b, 0 ≤ b → b ≤ 1048576 → i ≤ xs.length → xs.length < n + i → (∀ j (hj : j < xs.length), j < i → E xs[j]) → SzR (bnd (forG B n (xs, b, (i : Int))) fun y1 => onSum y1 (fun y2 => some y2) fun y2 => some y2) (∀ y ∈ xs, E y) := by
  intro n
  induction n with
  | zero => intro i b _ _ h1 h2; omega
  | succ n ih =>
   intro i b b0 b1 hi hn hE
   simp only [forG]
   by_cases hlt : i < xs.length
   ·obtain ⟨r, hr, e⟩ := hB i b (forG B n) hlt b0 b1
    rw [e]
    rcases hr with rfl | ⟨r0, r1, hr⟩
    ·exact ⟨-1, by simp [bnd, onSum], .inl rfl⟩
    ·rw [if_neg (by omega)]
     refine ih (i + 1) r r0 r1 hlt (by omega) fun j hj hji => ?_
     have hg : xs.getD i z = xs[i] := by simp [List.getD_eq_getElem?_getD, hlt]
     rw [hg] at hr
     rcases Nat.lt_or_ge j i with h | h
     ·exact hE j hj h
     ·have : j = i := by omega
      subst this; exact hr
   ·have : i = xs.length := by omega
    subst this
    rw [hEnd]
    refine ⟨b, rfl, .inr ⟨b0, b1, fun y hy => ?_⟩⟩
    obtain ⟨j, hj, rfl⟩ := List.mem_iff_getElem.1 hy
    exact hE j hj hj
 exact key n 0 b h0 h1 (Nat.zero_le _) (by omega) fun j hj h => absurd h (by omega)
theorem sz_less' {b c : Int} {n : Nat} (hw : IntKind.i64.wrap (b - (n : Int)) = c) (h0 : 0 ≤ b) (h1 : b ≤ 1048576) (hn : n ≤ maxLen) : ∃ r : Int, (r = -1 ∨ (0 ≤ r ∧ r ≤ 1048576 ∧ n ≤ 1048576)) ∧ (c < 0 ∧ r = -1 ∨ c = r) := by
 rcases sz_less hw h0 h1 hn with h | h
 ·exact ⟨-1, .inl rfl, .inl ⟨h, rfl⟩⟩
 ·exact ⟨c, .inr h, .inr rfl⟩
theorem fold_copy {α R : Type} (out : R → List α) : ∀ (xs pre post : List α), xs.length = post.length → foldE (fun i (x : α) (ys : List α) => (.inl (ys.set i x) : List α ⊕ R)) id out xs pre.length (pre ++ post) = pre ++ xs
 | [], pre, post, h => by
  have : post = [] := List.eq_nil_of_length_eq_zero (by simpa using h.symm)
  subst this
  rfl
 | x :: r, pre, [], h => by simp at h
 | x :: r, pre, p :: post, h => by
  simp only [foldE]
  have e : (pre ++ p :: post).set pre.length x = (pre ++ [x]) ++ post := by simp
  have el : pre.length + 1 = (pre ++ [x]).length := by simp
  rw [e, el, fold_copy out r (pre ++ [x]) post (by simpa using h)]
  simp
theorem copy_loop {α : Type} (xs : List α) (z z' : α) {B : List α × List α × Int → (List α × List α × Int → Option (List α)) → Option (List α)}
  (hB : ∀ (i : Nat) (ys : List α) C, i < xs.length → ys.length = xs.length → B (xs, ys, (i : Int)) C = C (xs, ys.set i (xs.getD i z), ((i + 1 : Nat) : Int)))
  (hEnd : ∀ (ys : List α) C, B (xs, ys, (xs.length : Int)) C = some ys) {n : Nat} (hn : xs.length < n) : forG B n (xs, List.replicate xs.length z', 0) = some xs := by
 have key := forG_fold0 (S := List α) (R := Empty) (X := List α) (xs := xs) z (B := B) (fun i ys => (xs, ys, i)) (fun i x ys => .inl (ys.set i x)) id (fun r => r.elim) (fun _ ys => ys.length = xs.length)
  (fun i ys C hi hy => by
   refine ⟨hB i ys C hi hy, fun s' e => ?_⟩
   obtain rfl := Sum.inl.inj e
   simp only [List.length_set]
   exact hy)
  (fun ys C _ => hEnd ys C) (n := n) (s := List.replicate xs.length z') hn (by simp)
 rw [key]
 have := fold_copy (R := Empty) (fun r => r.elim) xs [] (List.replicate xs.length z') (by simp)
 simp only [List.length_nil, List.nil_append] at this
 exact congrArg some this
theorem eq_loop {α : Type} (xs : List α) {B : List α × List α × Int → (List α × List α × Int → Option (Unit ⊕ Bool)) → Option (Unit ⊕ Bool)}
  (hB : ∀ (i : Nat) C, i < xs.length → B (xs, xs, (i : Int)) C = C (xs, xs, ((i + 1 : Nat) : Int))) (hEnd : ∀ C, B (xs, xs, (xs.length : Int)) C = some (.inl ())) {n : Nat} (hn : xs.length < n) :
  ∀ i, i ≤ xs.length → xs.length < n + i → forG B n (xs, xs, (i : Int)) = some (.inl ()) := by
 clear hn
 induction n with
 | zero => intro i h1 h2; omega
 | succ n ih =>
  intro i h1 h2
  simp only [forG]
  by_cases hi : i < xs.length
  ·rw [hB i _ hi]
   exact ih (i + 1) (by omega) (by omega)
  ·have : i = xs.length := by omega
   subst this
   exact hEnd _
end Go.Ev
end
section
namespace Go.Ev
open Go Go.Proofs
def MkMax : Int := 4611686018427387904
def MK {X : Type} (M : X → Int → Option (Int × X)) (H : X → Int → Option Int) (c : Int) (P : X → Prop) : Prop :=
 ∀ x k, P x → 0 ≤ k → k + c ≤ MkMax → ∃ k' x', M x k = some (k', x') ∧ H x' k = some k' ∧ k ≤ k' ∧ k' ≤ k + c
def MkStep {X : Type} (zm zh : X) (BM : List X × Int × Int → (List X × Int × Int → Option (List X × Int)) → Option (List X × Int)) (BH : List X × Int × Int → (List X × Int × Int → Option (Int ⊕ Int)) → Option (Int ⊕ Int)) (c : Int) (P : X → Prop) : Prop :=
 ∀ (i : Nat) x k, P x → 0 ≤ k → k + c ≤ MkMax → i < 1048576 → ∃ k' x',
  (∀ l C, i < l.length → l.getD i zm = x → BM (l, k, (i : Int)) C = C (l.set i x', k', ((i + 1 : Nat) : Int))) ∧
  (∀ l C, i < l.length → l.getD i zh = x' → BH (l, k, (i : Int)) C = C (l, k', ((i + 1 : Nat) : Int))) ∧ k ≤ k' ∧ k' ≤ k + c
theorem getD_setl {α : Type} {l : List α} {i : Nat} {x z : α} (h : i < l.length) : (l.set i x).getD i z = x := by
 simp [List.getD_eq_getElem?_getD, h]
theorem getD_mid {α : Type} (p : List α) (x : α) (t : List α) (z : α) : (p ++ x :: t).getD p.length z = x := by
 simp [List.getD_eq_getElem?_getD]
theorem set_mid {α : Type} (p : List α) (x y : α) (t : List α) : (p ++ x :: t).set p.length y = p ++ y :: t := by
 simp
section
variable {X : Type} {zm zh : X} {BM : List X × Int × Int → (List X × Int × Int → Option (List X × Int)) → Option (List X × Int)} {BH : List X × Int × Int → (List X × Int × Int → Option (Int ⊕ Int)) → Option (Int ⊕ Int)} {c : Int} {P : X → Prop}
theorem mk_loop (hs : MkStep zm zh BM BH c P) (hc : 0 ≤ c)
  (hm : ∀ l k C, BM (l, k, (l.length : Int)) C = some (l, k)) (hh : ∀ l k C, BH (l, k, (l.length : Int)) C = some (.inl k)) :
  ∀ (r p : List X) (k : Int), (∀ x ∈ r, P x) → 0 ≤ k → k + c * r.length ≤ MkMax → p.length + r.length ≤ 1048576 → ∃ k' r',
   r'.length = r.length ∧ k ≤ k' ∧ k' ≤ k + c * r.length ∧ (∀ n, r.length < n → forG BM n (p ++ r, k, (p.length : Int)) = some (p ++ r', k')) ∧
   (∀ n (q : List X), q.length = p.length → r.length < n → forG BH n (q ++ r', k, (p.length : Int)) = some (.inl k'))
 | [], p, k, _, h0, hk, hl => by
  refine ⟨k, [], rfl, Int.le_refl _, by simp, fun n hn => ?_, fun n q hq hn => ?_⟩
  ·obtain ⟨m, rfl⟩ : ∃ m, n = m + 1 := ⟨n - 1, by simp at hn; omega⟩
   have := hm p k (forG BM m)
   simpa [forG] using this
  ·obtain ⟨m, rfl⟩ : ∃ m, n = m + 1 := ⟨n - 1, by simp at hn; omega⟩
   have := hh q k (forG BH m)
   rw [hq] at this
   simpa [forG] using this
 | x :: t, p, k, hP, h0, hk, hl => by
  have hlen : ((x :: t).length : Int) = t.length + 1 := by simp
  have hmul : c * ((x :: t).length : Int) = c * t.length + c := by rw [hlen, Int.mul_add, Int.mul_one]
  have hpos : 0 ≤ c * (t.length : Int) := Int.mul_nonneg hc (by omega)
  rw [hmul] at hk ⊢
  have hl' : p.length + (t.length + 1) ≤ 1048576 := by simpa using hl
  obtain ⟨k1, x', e1, e2, g1, g2⟩ := hs p.length x k (hP x (by simp)) h0 (by omega) (by omega)
  obtain ⟨k2, t', q1, q2, q3, q4, q5⟩ := mk_loop hs hc hm hh t (p ++ [x']) k1 (fun y hy => hP y (by simp [hy])) (by omega) (by omega) (by simp; omega)
  refine ⟨k2, x' :: t', by simp [q1], by omega, by omega, fun n hn => ?_, fun n q hq hn => ?_⟩
  ·obtain ⟨m, rfl⟩ : ∃ m, n = m + 1 := ⟨n - 1, by simp at hn; omega⟩
   have a := e1 (p ++ x :: t) (forG BM m) (by simp) (getD_mid p x t zm)
   rw [set_mid] at a
   have b := q4 m (by simp at hn; omega)
   simp only [List.append_assoc, List.cons_append, List.nil_append, List.length_append, List.length_cons, List.length_nil, Nat.zero_add] at b
   simp only [forG]; rw [a]; exact b
  ·obtain ⟨m, rfl⟩ : ∃ m, n = m + 1 := ⟨n - 1, by simp at hn; omega⟩
   have a := e2 (q ++ x' :: t') (forG BH m) (by simp; omega) (by rw [← hq]; exact getD_mid q x' t' zh)
   have b := q5 m (q ++ [x']) (by simp [hq]) (by simp at hn; omega)
   simp only [List.append_assoc, List.cons_append, List.nil_append, List.length_append, List.length_cons, List.length_nil, Nat.zero_add] at b
   simp only [forG]; rw [a]; exact b
theorem mk_slice (hs : MkStep zm zh BM BH c P) (hc : 0 ≤ c)
  (hm : ∀ l k C, BM (l, k, (l.length : Int)) C = some (l, k)) (hh : ∀ l k C, BH (l, k, (l.length : Int)) C = some (.inl k))
  (l : List X) (k : Int) (hP : l.length ≤ 1048576 ∧ ∀ x ∈ l, P x) (h0 : 0 ≤ k) (hk : k + c * 1048576 ≤ MkMax) : ∃ k' l',
   forG BM ((l.length : Int).toNat + 1) (l, k, 0) = some (l', k') ∧ forG BH ((l'.length : Int).toNat + 1) (l', k, 0) = some (.inl k') ∧ k ≤ k' ∧ k' ≤ k + c * 1048576 := by
 have hmul : c * (l.length : Int) ≤ c * 1048576 := Int.mul_le_mul_of_nonneg_left (by omega) hc
 obtain ⟨k', l', e1, g1, g2, e2, e3⟩ := mk_loop hs hc hm hh l [] k hP.2 h0 (by omega) (by simpa using hP.1)
 refine ⟨k', l', ?_, ?_, g1, by omega⟩
 ·have := e2 ((l.length : Int).toNat + 1) (by simp)
  simpa using this
 ·have := e3 ((l'.length : Int).toNat + 1) [] rfl (by simp [e1])
  simpa using this
end
def MKo {X : Type} (M : X → Int → Option (Int × X)) (c : Int) (P : X → Prop) : Prop :=
 ∀ x k, P x → 0 ≤ k → k + c ≤ MkMax → ∃ k' x', M x k = some (k', x') ∧ k ≤ k' ∧ k' ≤ k + c
def MkStepo {X : Type} (zm : X) (BM : List X × Int × Int → (List X × Int × Int → Option (List X × Int)) → Option (List X × Int)) (c : Int) (P : X → Prop) : Prop :=
 ∀ (i : Nat) x k, P x → 0 ≤ k → k + c ≤ MkMax → i < 1048576 → ∃ k' x',
  (∀ l C, i < l.length → l.getD i zm = x → BM (l, k, (i : Int)) C = C (l.set i x', k', ((i + 1 : Nat) : Int))) ∧ k ≤ k' ∧ k' ≤ k + c
section
variable {X : Type} {zm : X} {BM : List X × Int × Int → (List X × Int × Int → Option (List X × Int)) → Option (List X × Int)} {c : Int} {P : X → Prop}
theorem mk_loopo (hs : MkStepo zm BM c P) (hc : 0 ≤ c)
  (hm : ∀ l k C, BM (l, k, (l.length : Int)) C = some (l, k)) :
  ∀ (r p : List X) (k : Int), (∀ x ∈ r, P x) → 0 ≤ k → k + c * r.length ≤ MkMax → p.length + r.length ≤ 1048576 → ∃ k' r',
   r'.length = r.length ∧ k ≤ k' ∧ k' ≤ k + c * r.length ∧ (∀ n, r.length < n → forG BM n (p ++ r, k, (p.length : Int)) = some (p ++ r', k'))
 | [], p, k, _, h0, hk, hl => by
  refine ⟨k, [], rfl, Int.le_refl _, by simp, fun n hn => ?_⟩
  obtain ⟨m, rfl⟩ : ∃ m, n = m + 1 := ⟨n - 1, by simp at hn; omega⟩
  have := hm p k (forG BM m)
  simpa [forG] using this
 | x :: t, p, k, hP, h0, hk, hl => by
  have hlen : ((x :: t).length : Int) = t.length + 1 := by simp
  have hmul : c * ((x :: t).length : Int) = c * t.length + c := by rw [hlen, Int.mul_add, Int.mul_one]
  have hpos : 0 ≤ c * (t.length : Int) := Int.mul_nonneg hc (by omega)
  rw [hmul] at hk ⊢
  have hl' : p.length + (t.length + 1) ≤ 1048576 := by simpa using hl
  obtain ⟨k1, x', e1, g1, g2⟩ := hs p.length x k (hP x (by simp)) h0 (by omega) (by omega)
  obtain ⟨k2, t', q1, q2, q3, q4⟩ := mk_loopo hs hc hm t (p ++ [x']) k1 (fun y hy => hP y (by simp [hy])) (by omega) (by omega) (by simp; omega)
  refine ⟨k2, x' :: t', by simp [q1], by omega, by omega, fun n hn => ?_⟩
  obtain ⟨m, rfl⟩ : ∃ m, n = m + 1 := ⟨n - 1, by simp at hn; omega⟩
  have a := e1 (p ++ x :: t) (forG BM m) (by simp) (getD_mid p x t zm)
  rw [set_mid] at a
  have b := q4 m (by simp at hn; omega)
  simp only [List.append_assoc, List.cons_append, List.nil_append, List.length_append, List.length_cons, List.length_nil, Nat.zero_add] at b
  simp only [forG]; rw [a]; exact b
theorem mk_sliceo (hs : MkStepo zm BM c P) (hc : 0 ≤ c)
  (hm : ∀ l k C, BM (l, k, (l.length : Int)) C = some (l, k))
  (l : List X) (k : Int) (hP : l.length ≤ 1048576 ∧ ∀ x ∈ l, P x) (h0 : 0 ≤ k) (hk : k + c * 1048576 ≤ MkMax) : ∃ k' l',
   forG BM ((l.length : Int).toNat + 1) (l, k, 0) = some (l', k') ∧ k ≤ k' ∧ k' ≤ k + c * 1048576 := by
 have hmul : c * (l.length : Int) ≤ c * 1048576 := Int.mul_le_mul_of_nonneg_left (by omega) hc
 obtain ⟨k', l', e1, g1, g2, e2⟩ := mk_loopo hs hc hm l [] k hP.2 h0 (by omega) (by simpa using hP.1)
 refine ⟨k', l', ?_, g1, by omega⟩
 have := e2 ((l.length : Int).toNat + 1) (by simp)
 simpa using this
end
theorem not3 : (!((3 : Nat) == 0)) = true := rfl
theorem not10 : (!((10 : Nat) == 0)) = true := rfl
theorem text_loop {B : Int × List UInt8 → (Int × List UInt8 → Option (List UInt8)) → Option (List UInt8)} (d : Int → UInt8)
  (h1 : ∀ k s C, 0 < k → k ≤ 9000000000000000000 → s.length ≤ 100 → B (k, s) C = C (k.tdiv 10, d k :: s)) (h2 : ∀ s C, B (0, s) C = some s) :
  ∀ (m : Nat) (k : Int) (s : List UInt8) (n : Nat), 0 ≤ k → k ≤ 9000000000000000000 → k < 10 ^ m → s.length + m ≤ 100 → k.toNat < n → ∃ t, forG B n (k, s) = some t ∧ t.length ≤ 100
 | 0, k, s, n, h0, hk2, hk, hs, hn => by
  have : k = 0 := by simp at hk; omega
  subst this
  obtain ⟨j, rfl⟩ : ∃ j, n = j + 1 := ⟨n - 1, by omega⟩
  exact ⟨s, h2 s _, by omega⟩
 | m + 1, k, s, n, h0, hk2, hk, hs, hn => by
  obtain ⟨j, rfl⟩ : ∃ j, n = j + 1 := ⟨n - 1, by omega⟩
  by_cases hz : k = 0
  ·subst hz; exact ⟨s, h2 s _, by omega⟩
  have hd : k.tdiv 10 = k / 10 := Int.tdiv_eq_ediv_of_nonneg h0
  have hk' : k < 10 ^ m * 10 := by rw [← Int.pow_succ]; exact hk
  obtain ⟨t, e, g⟩ := text_loop d h1 h2 m (k.tdiv 10) (d k :: s) j (by rw [hd]; omega) (by rw [hd]; omega) (by rw [hd]; generalize (10 : Int) ^ m = w at *; omega) (by simp; omega) (by rw [hd]; omega)
  exact ⟨t, by simp only [forG]; rw [h1 k s _ (by omega) hk2 (by omega)]; exact e, g⟩
end Go.Ev
end
section
namespace Go.Ev
open Go.RowKit (Below)
def tabDeep (P : Program) (Γ : Tab) : List (Nat × TI) → Bool
 | [] => true
 | (T, ti) :: r => tiDeep P Γ T ti && tabDeep P Γ r
def Deep (P : Program) (Γ : Tab) : Prop := ∀ T ti, find Γ T = some ti → tiDeep P Γ T ti = true
theorem deep_of {P : Program} {Γ : Tab} : ∀ {l : List (Nat × TI)}, tabDeep P Γ l = true → ∀ T ti, find l T = some ti → tiDeep P Γ T ti = true
 | [], _, T, ti, h => by simp [find] at h
 | (U, tu) :: r, h, T, ti, hf => by
  simp only [tabDeep, Bool.and_eq_true] at h
  rw [y15q] at hf
  by_cases e : U = T
  ·rw [if_pos e] at hf
   obtain rfl := Option.some.inj hf
   subst e
   exact h.1
  ·rw [if_neg e] at hf
   exact deep_of h.2 T ti hf
def Rd {H : Type} : (t : Ty) → t.den → DataW H → Prop
 | .int k, n, d => d = .lit (.int k n) ∧ (Lit.int k n).wf = true
 | .bool, b, d => d = .lit (.bool b)
 | .str, s, d => d = .lit (.string s) ∧ s.length ≤ maxLen
 | .sl t, xs, d => (d = .nil ∧ xs = []) ∨ ∃ es sp, d = .slice es sp ∧ es.length = xs.length ∧ xs.length ≤ maxLen ∧ ∀ i e, es[i]? = some e → Rd t (xs.getD i t.zero) e
 | .unit, _, d => d = .agg []
 | .any, _, _ => False
 | .osl _ _, _, _ => False
 | .mp _ _, _, _ => False
 | .omp _ _, _, _ => False
 | .pair a b, x, d => ∃ p ps, d = .agg (p :: ps) ∧ Rd a x.1 p ∧ Rd b x.2 (.agg ps)
theorem list_of {α : Type} (d : α) (p : Nat → α → Prop) : ∀ n, (∀ i, i < n → ∃ x, p i x) → ∃ l : List α, l.length = n ∧ ∀ i, i < n → p i (l.getD i d)
 | 0, _ => ⟨[], rfl, fun i hi => absurd hi (by omega)⟩
 | n + 1, h => by
  obtain ⟨l, hl, hp⟩ := list_of d p n fun i hi => h i (by omega)
  obtain ⟨x, hx⟩ := h n (by omega)
  refine ⟨l ++ [x], by simp [hl], fun i hi => ?_⟩
  by_cases hin : i < n
  ·have : (l ++ [x]).getD i d = l.getD i d := by simp [List.getD_eq_getElem?_getD, List.getElem?_append_left (show i < l.length by omega)]
   rw [this]
   exact hp i hin
  ·have : i = n := by omega
   subst this
   have : (l ++ [x]).getD i d = x := by simp [List.getD_eq_getElem?_getD, ← hl]
   rw [this]
   exact hx
section
variable {H : Type} {enc : TypeId × Value → H} {P : Program} {w : World} {base : Nat} {spare : Nat → Bool} {held : Bool} {Γ : Tab}
theorem cellsOf_eq (hΓ : TabOk P Γ) {T : Nat} {ti : TI} (hf : find Γ T = some ti) : P.cellsOf T = ti.ty.size := by
 obtain ⟨i, z, cs, hi, hs, _⟩ := (hΓ T ti hf).info
 simp [Program.cellsOf, hi, hs]
theorem cells_plain {a : Addr} {n : Nat} {cs : List Value} (h : w.cells? base a n = some cs) (hn : 0 < n) : a.spot = none ∧ a.block < w.heap.size ∧ cs.length = n ∧ CellsAt w a.block a.off cs := by
 obtain ⟨h1, h2, h3⟩ := World.cells?_some h
 have h0 : ∃ v, w.cell? a = some v := by
  have h4 := h3 0 hn
  have e0 : a.add 0 = a := by simp [Addr.add]
  rw [e0] at h4
  exact ⟨cs[0], by rw [h4]; exact List.getElem?_eq_getElem (by omega)⟩
 obtain ⟨v, hv⟩ := h0
 have hsp : a.spot = none := by
  unfold World.cell? at hv
  split at hv
  ·split at hv
   ·simp at hv
   ·rename_i hs
    cases hq : a.spot with
    | none => rfl
    | some s => rw [hq] at hs; simp at hs
  ·simp at hv
 refine ⟨hsp, ?_, h2, fun j u hj => ?_⟩
 ·unfold World.cell? at hv
  split at hv
  ·rename_i hh
   exact heap_lt hh
  ·simp at hv
 ·have hjn : j < n := by
   have := (List.getElem?_eq_some_iff.1 hj).1
   omega
  have := h3 j hjn
  rw [hj, addr_eta hsp, y48q] at this
  exact this
theorem trod_val (hΓ : TabOk P Γ) (hD : Deep P Γ) : ∀ (fuel : Nat) (T : Nat) (ti : TI) (cs : List Value) (d : DataW H) (ps : List MemPlace), find Γ T = some ti → DataW.trod enc P w base spare held fuel T cs = some (d, ps) →
  ∃ x : ti.ty.den, Val w (fun b => b < w.heap.size) ti.ty x cs ∧ Rd ti.ty x d
 | 0, T, ti, cs, d, ps, hf, h => by simp [DataW.trod] at h
 | fuel + 1, T, ti, cs, d, ps, hf, h => by
  have hT := hΓ T ti hf
  cases hag : ti.ty.isAgg with
  | true =>
   have hdeep := hD T ti hf
   unfold tiDeep at hdeep
   rw [hag] at hdeep
   simp only at hdeep
   obtain ⟨sd, hu, _, hst⟩ := hT.under
   rcases hst hag with ⟨fs, rfl, _⟩ | ⟨_, _, rfl, _⟩
   case inr => rw [hu] at hdeep; simp at hdeep
   rw [hu] at hdeep
   simp only at hdeep
   obtain ⟨xs, n, hn, hx, hl, hxl, hfld⟩ := DataW.trod_struct hu h
   obtain rfl : fuel = n := by omega
   simp only [Prod.mk.injEq] at hx
   obtain ⟨rfl, _⟩ := hx
   rw [cellsOf_eq hΓ hf] at hl
   have key : ∀ (fl : List Field) (t : Ty) (off : Nat) (ys : List (DataW H × List MemPlace)), y50q Γ fl t off = true → off + t.size = cs.length → ys.length = fl.length →
     (∀ (i : Nat) (f : Field), fl[i]? = some f → DataW.trod enc P w base spare held fuel f.type ((cs.drop f.offset).take (P.cellsOf f.type)) = ys[i]?) → t.isAgg = true →
     ∃ x : t.den, Val w (fun b => b < w.heap.size) t x (cs.drop off) ∧ Rd t x (.agg (ys.map (·.1))) := by
    intro fl
    induction fl with
    | nil =>
     intro t off ys hft hsz hyl _ _
     cases t <;> simp [y50q] at hft
     have : ys = [] := List.eq_nil_of_length_eq_zero (by simpa using hyl)
     subst this
     refine ⟨(), ?_, rfl⟩
     simp only [Val]
     simp only [Ty.size, Nat.add_zero] at hsz
     rw [hsz, List.drop_length]
    | cons f fl ih =>
     intro t off ys hft hsz hyl hfl _
     obtain ⟨a, t2, rfl⟩ : ∃ a t2, t = .pair a t2 := by
      cases t <;> first | (simp [y50q] at hft; done) | exact ⟨_, _, rfl⟩
     simp only [y50q, Bool.and_eq_true] at hft
     obtain ⟨⟨h1, h2⟩, h3⟩ := hft
     have h1 := Nat.eq_of_beq_eq_true h1
     cases hff : find Γ f.type with
     | none => simp [hff] at h2
     | some tf =>
      simp only [hff] at h2
      have hta := y74q h2
      cases ys with
      | nil => simp at hyl
      | cons y ys =>
       have h0 := hfl 0 f rfl
       simp only [List.getElem?_cons_zero] at h0
       obtain ⟨dy, py⟩ := y
       obtain ⟨x1, v1, r1⟩ := trod_val hΓ hD fuel f.type tf _ dy py hff h0
       rw [cellsOf_eq hΓ hff] at v1
       have hb : t2.isAgg = true := by
        cases fl with
        | nil => cases t2 <;> simp [y50q] at h3 <;> rfl
        | cons g gl => cases t2 <;> simp [y50q] at h3 <;> rfl
       obtain ⟨x2, v2, r2⟩ := ih t2 (off + a.size) ys h3 (by simp only [Ty.size] at hsz; omega) (by simpa using hyl) (fun i g hg => by
        have := hfl (i + 1) g (by simpa using hg)
        simpa using this) hb
       subst hta
       refine ⟨(x1, x2), ⟨(cs.drop off).take tf.ty.size, cs.drop (off + tf.ty.size), ?_, ?_, v2⟩, dy, ys.map (·.1), rfl, r1, r2⟩
       ·rw [← List.drop_drop, List.take_append_drop]
       ·rw [h1] at v1
        exact v1
   obtain ⟨x, hv, hr⟩ := key fs.toList ti.ty 0 xs hdeep (by rw [hl, Nat.zero_add]) (by simpa using hxl) (fun i f hfi => hfld i f (by simpa using hfi)) hag
   exact ⟨x, by simpa using hv, hr⟩
  | false =>
   cases hty : ti.ty with
   | pair a b => rw [hty] at hag; simp [Ty.isAgg] at hag
   | unit => rw [hty] at hag; simp [Ty.isAgg] at hag
   | any =>
    have hdeep := hD T ti hf
    unfold tiDeep at hdeep
    rw [hty] at hdeep
    simp [Ty.isAgg] at hdeep
   | osl U t =>
    have hdeep := hD T ti hf
    unfold tiDeep at hdeep
    rw [hty] at hdeep
    simp [Ty.isAgg] at hdeep
   | mp k v =>
    have hdeep := hD T ti hf
    unfold tiDeep at hdeep
    rw [hty] at hdeep
    simp [Ty.isAgg] at hdeep
   | omp k v =>
    have hdeep := hD T ti hf
    unfold tiDeep at hdeep
    rw [hty] at hdeep
    simp [Ty.isAgg] at hdeep
   | bool =>
    obtain ⟨b, e1, e2⟩ := DataW.trod_bool (hT.bool hty) h
    simp only [Prod.mk.injEq] at e2
    obtain ⟨rfl, _⟩ := e2
    exact ⟨b, e1, rfl⟩
   | int k =>
    obtain ⟨n, e1, e2, hw⟩ := DataW.trod_int (hT.int k hty) h
    simp only [Prod.mk.injEq] at e2
    obtain ⟨rfl, _⟩ := e2
    exact ⟨n, e1, rfl, hw⟩
   | str =>
    obtain ⟨s, e1, e2, hs⟩ := DataW.trod_string (hT.str hty) h
    simp only [Prod.mk.injEq] at e2
    obtain ⟨rfl, _⟩ := e2
    exact ⟨s.data.toList, ⟨s, e1, rfl⟩, rfl, by rw [← ba_size]; exact hs⟩
   | sl t =>
    obtain ⟨hu, hpos, tj, hj, htj⟩ := hT.sl t (.inl hty)
    have hcell := cellsOf_eq hΓ hj
    rw [htj] at hcell
    rcases DataW.trod_slice hu h with ⟨e1, e2⟩ | ⟨a, len, cap, els, rest, n, hn, e1, e2, hb, hlc, hcm, hlen, hget, _⟩
    ·simp only [Prod.mk.injEq] at e2
     obtain ⟨rfl, _⟩ := e2
     exact ⟨[], ⟨none, 0, 0, e1, rfl, Nat.le_refl _, fun j hj => absurd hj (by simp)⟩, .inl ⟨rfl, rfl⟩⟩
    ·obtain rfl : fuel = n := by omega
     simp only [Prod.mk.injEq] at e2
     obtain ⟨rfl, _⟩ := e2
     have some_of : ∀ i, i < len → ∃ c0, w.cells? base (a.add (i * P.cellsOf ti.elem)) (P.cellsOf ti.elem) = some c0 ∧ DataW.trod enc P w base spare held fuel ti.elem c0 = els[i]? := by
      intro i hi
      have hg := hget i hi
      cases hq : w.cells? base (a.add (i * P.cellsOf ti.elem)) (P.cellsOf ti.elem) with
      | none =>
       rw [hq] at hg
       simp only [Option.bind_none] at hg
       rw [List.getElem?_eq_getElem (by omega)] at hg
       cases hg
      | some c0 =>
       rw [hq] at hg
       exact ⟨c0, rfl, hg⟩
     have hel : ∀ i, i < len → ∃ y : t.den, ∃ cs' dy py, a.spot = none ∧ a.block < w.heap.size ∧ els[i]? = some (dy, py) ∧ CellsAt w a.block (a.off + i * t.size) cs' ∧ Val w (fun b => b < w.heap.size) t y cs' ∧ Rd t y dy := by
      intro i hi
      obtain ⟨cs', hcs, hg⟩ := some_of i hi
      have hgi : els[i]? = some els[i] := List.getElem?_eq_getElem (by omega)
      rw [hgi] at hg
      obtain ⟨y, v1, r1⟩ := trod_val hΓ hD fuel ti.elem tj cs' els[i].1 els[i].2 hj hg
      obtain ⟨g1, g2, g3, g4⟩ := cells_plain hcs (by rw [hcell]; exact hpos)
      have hsp : a.spot = none := by
       obtain ⟨c0, hq, _⟩ := some_of 0 (by omega)
       have := (cells_plain hq (by rw [hcell]; exact hpos)).1
       simpa [Addr.add] using this
      subst htj
      rw [addr_eta hsp, y48q] at g2 g4
      simp only at g2 g4
      rw [hcell] at g4
      exact ⟨y, cs', els[i].1, els[i].2, hsp, g2, hgi, g4, v1, r1⟩
     obtain ⟨ys, hyl, hy⟩ := list_of t.zero (fun i y => ∃ cs' dy py, a.spot = none ∧ a.block < w.heap.size ∧ els[i]? = some (dy, py) ∧ CellsAt w a.block (a.off + i * t.size) cs' ∧ Val w (fun b => b < w.heap.size) t y cs' ∧ Rd t y dy) len hel
     refine ⟨ys, ⟨some a, len, cap, e1, hyl, hlc, fun j hj => ?_⟩, .inr ⟨_, _, rfl, by simp [hlen, hyl], by omega, fun i e he => ?_⟩⟩
     ·obtain ⟨cs', dy, py, g1, g2, g3, g4, g5, g6⟩ := hy j (by omega)
      exact ⟨a, cs', rfl, g1, g2, g4, g5⟩
     ·have hi : i < len := by
       have := (List.getElem?_eq_some_iff.1 he).1
       simp at this
       omega
      obtain ⟨cs', dy, py, g1, g2, g3, g4, g5, g6⟩ := hy i hi
      rw [List.getElem?_map, g3] at he
      simp only [Option.map_some, Option.some.injEq] at he
      subst he
      exact g6
end
end Go.Ev
end
section
namespace Go.Ev
open Go.RowKit Go.ChangeShapes Go.WideShapes
def RdAll {H : Type} : (ats : List AT) → ATs.den ats → List (DataW H) → Prop
 | [], _, l => l = []
 | .val t :: r, x, d :: l => Rd t x.1 d ∧ RdAll r x.2 l
 | _, _, _ => False
section
variable {H : Type} {enc : TypeId × Value → H} {P : Program} {W W' : World} {Γ : Tab}
theorem okWide_plain {r : Reach} {b : Nat} {T : Nat} {d : TypeDesc} {v : Value} (hd : P.underlying T = some d) (hp : d.isRow = false) (hk : match d with
  | .bool | .string | .int _ | .slice _ => True
  | _ => False) (h : Value.okWide P W r b T v) : v.cells = #[v] := by
 unfold Value.okWide at h
 rw [hd] at h
 cases d <;> simp only at hk h <;> first | exact hk.elim | skip
 all_goals
  unfold Cell.okWide at h
  rw [hd] at h
  cases v <;> simp only at h <;> first | rfl | (unfold Cell.ok at h; rw [hd] at h; simp only at h)
theorem asVal_of (hΓ : TabOk P Γ) (hD : Deep P Γ) {T : Nat} {ti : TI} (hf : find Γ T = some ti) {r : Reach} {b : Nat} {v : Value} (h : Value.okWide P W r b T v) : AsVal ti.ty v.cells.toList v := by
 have hT := hΓ T ti hf
 obtain ⟨d, hu, hrow, hst⟩ := hT.under
 unfold AsVal
 cases ha : ti.ty.isAgg with
 | true =>
  rcases hst ha with ⟨fs, rfl, _⟩ | ⟨_, _, rfl, _⟩
  case inr => have hdeep := hD T ti hf; unfold tiDeep at hdeep; rw [ha, hu] at hdeep; simp at hdeep
  obtain ⟨cs, e, _⟩ := okWide_struct hu h
  subst e
  simp [Value.cells]
 | false =>
  simp only
  have : v.cells = #[v] := by
   cases hty : ti.ty with
   | int k => exact okWide_plain (hT.int k hty) rfl trivial h
   | bool => exact okWide_plain (hT.bool hty) rfl trivial h
   | str => exact okWide_plain (hT.str hty) rfl trivial h
   | sl t => exact okWide_plain (hT.sl t (.inl hty)).1 rfl trivial h
   | pair a b => rw [hty] at ha; simp [Ty.isAgg] at ha
   | unit => rw [hty] at ha; simp [Ty.isAgg] at ha
   | any =>
    have hdeep := hD T ti hf
    unfold tiDeep at hdeep
    rw [hty] at hdeep
    simp [Ty.isAgg] at hdeep
   | osl U t =>
    have hdeep := hD T ti hf
    unfold tiDeep at hdeep
    rw [hty] at hdeep
    simp [Ty.isAgg] at hdeep
   | mp k v =>
    have hdeep := hD T ti hf
    unfold tiDeep at hdeep
    rw [hty] at hdeep
    simp [Ty.isAgg] at hdeep
   | omp k v =>
    have hdeep := hD T ti hf
    unfold tiDeep at hdeep
    rw [hty] at hdeep
    simp [Ty.isAgg] at hdeep
  rw [this]
theorem args_of (hΓ : TabOk P Γ) (hD : Deep P Γ) {base : Nat} {sp : Nat → Bool} {held : Bool} {b : Nat} {r : Reach} : ∀ (ts : List TypeId) (ats : List AT) (vs : List Value) (ds : List (DataW H)) (ps : List MemPlace),
  R2 (fun T a => ∃ ti, find Γ T = some ti ∧ a = .val ti.ty) ts ats → (∀ (j : Nat) t v, ts[j]? = some t → vs[j]? = some v → Value.okWide P W r b t v) → DataW.TrodAll enc P W base sp held ts vs ds ps →
  ∃ x : ATs.den ats, Args W (fun b => b < W.heap.size) ats x vs ∧ RdAll ats x ds
 | [], [], vs, ds, ps, _, _, h => by
  cases vs <;> cases ds <;> simp [DataW.TrodAll] at h
  exact ⟨(), rfl, rfl⟩
 | T :: ts, a :: ats, vs, ds, ps, ⟨⟨ti, hf, ha⟩, h2⟩, hval, h => by
  subst ha
  cases vs with
  | nil => simp [DataW.TrodAll] at h
  | cons v vs =>
   cases ds with
   | nil => simp [DataW.TrodAll] at h
   | cons d ds =>
    obtain ⟨p, q, ⟨fuel, h1⟩, h3, _⟩ := h
    obtain ⟨x, g1, g2⟩ := trod_val hΓ hD fuel T ti _ d p hf h1
    obtain ⟨y, g3, g4⟩ := args_of hΓ hD ts ats vs ds q h2 (fun j t u hj hu => hval (j + 1) t u (by simpa using hj) (by simpa using hu)) h3
    exact ⟨(x, y), ⟨⟨_, g1, asVal_of hΓ hD hf (hval 0 T v rfl rfl)⟩, g3⟩, g2, g4⟩
 | [], _ :: _, _, _, _, h, _, _ => by simp [R2] at h
 | _ :: _, [], _, _, _, h, _, _ => by simp [R2] at h
theorem trodAll_stays (hl : laidOutB P = true) : ∀ (ts : List TypeId) (vs : List Value) (ds : List (DataW H)) (ps : List MemPlace), (∀ T ∈ ts, P.readableRec T = true ∧ T < P.types.size) → DataW.TrodAll enc P W 0 (fun _ => true) true ts vs ds ps → Below W.heap.size W W' → (∀ x ∈ ps, x.block < W.heap.size) →
  DataW.TrodAll enc P W' 0 (fun b => decide (b < W.heap.size)) true ts vs ds ps
 | [], vs, ds, ps, _, h, _, _ => by
  cases vs <;> cases ds <;> simp [DataW.TrodAll] at h
  subst h
  exact rfl
 | T :: ts, vs, ds, ps, hr, h, hb, hlt => by
  cases vs with
  | nil => simp [DataW.TrodAll] at h
  | cons v vs =>
   cases ds with
   | nil => simp [DataW.TrodAll] at h
   | cons d ds =>
    obtain ⟨p, q, h1, h3, rfl⟩ := h
    obtain ⟨r1, r2⟩ := hr T List.mem_cons_self
    exact ⟨p, q, Below.trod hl r1 r2 h1 hb fun x hx => hlt x (List.mem_append_left _ hx), trodAll_stays hl ts vs ds q (fun T hT => hr T (List.mem_cons_of_mem _ hT)) h3 hb fun x hx => hlt x (List.mem_append_right _ hx), rfl⟩
theorem cell_lt {w : World} {a : Addr} {v : Value} (h : w.cell? a = some v) : a.block < w.heap.size := by
 unfold World.cell? at h
 split at h
 ·rename_i hh
  exact heap_lt hh
 ·simp at h
theorem trodAll_length {base : Nat} {sp : Nat → Bool} {held : Bool} : ∀ {ts : List TypeId} {vs : List Value} {ds : List (DataW H)} {ps : List MemPlace}, DataW.TrodAll enc P W base sp held ts vs ds ps → ds.length = ts.length
 | [], vs, ds, ps, h => by cases vs <;> cases ds <;> simp [DataW.TrodAll] at h; rfl
 | T :: ts, [], ds, ps, h => by simp [DataW.TrodAll] at h
 | T :: ts, v :: vs, [], ps, h => by simp [DataW.TrodAll] at h
 | T :: ts, v :: vs, d :: ds, ps, ⟨p, q, _, h, _⟩ => by simp [trodAll_length h]
theorem law_true (hΓ : TabOk P Γ) (hD : Deep P Γ) (hl : laidOutB P = true) {fid : Nat} {ats : List AT} {fn : Nat → ATs.den ats → Option Bool} (hc : ConOk P W fid ⟨ats, [.bool], fn⟩) {f : Func} {Tb : TypeId} (hrt : f.resultTypes = #[Tb]) (hb : P.underlying Tb = some .bool)
  (has : R2 (fun T a => ∃ ti, find Γ T = some ti ∧ a = .val ti.ty) f.params.toList ats) (hread : ∀ T ∈ f.params.toList, P.readableRec T = true ∧ T < P.types.size) {s : ChangeSpec} (hv : s.vars = []) {args : Array Value} {ds gs : List (DataW H)} {before : List MemPlace} {base : Nat} {r : Reach}
  (hval : ∀ (j : Nat) t v, f.params[j]? = some t → args[j]? = some v → Value.okWide P W r base t v) {apart fresh handsOn : Bool} (hW : DataW.Whole enc P f.params.toList s.vars apart W args.toList ds gs before)
  (hsp : ∀ l : List (DataW H), l.length = f.params.toList.length → s.fn H l = { results := [.lit (.bool true)], args := l }) (hpure : ∀ x : ATs.den ats, RdAll ats x ds → ∃ k, fn k x = some true) :
  Calls P fid args W fun e W' => ∃ v, e = .returned v ∧ s.post enc P f apart fresh handsOn false W args v W' := by
 have hlt := hW.lt
 have hW' := hW
 obtain ⟨p, q, hA, hV, hpq, hfz, hnd⟩ := hW
 rw [hv] at hV
 obtain ⟨rfl, rfl⟩ := trodVars_none hV
 rw [List.append_nil] at hpq
 subst hpq
 have hsp := hsp ds (trodAll_length hA)
 have e0 : ds ++ [] = ds := List.append_nil ds
 obtain ⟨x, hx, hrd⟩ := args_of hΓ hD f.params.toList ats args.toList ds _ has (fun j t v hj hu => hval j t v (by simpa using hj) (by simpa using hu)) hA
 obtain ⟨k, hk⟩ := hpure x hrd
 have hcall := hc k x true W (fun b => b < W.heap.size) args.toList (Below.refl _ _) (fun _ h => h) hk hx
 have hargs : args.toList.toArray = args := by simp
 rw [hargs] at hcall
 refine Calls.mono hcall ?_
 intro e W' ⟨l, he, hbel, hres⟩
 obtain ⟨v, hl1, cs, hv1, hv2⟩ := hres
 subst hl1
 have hvb : v = .bool true := by
  simp only [Val] at hv1
  simp only [AsVal, Ty.isAgg] at hv2
  subst hv2
  simpa using hv1
 subst hvb
 refine ⟨_, he, ds, [], before, [], before, [], hW', ?_, ?_, ?_, hbel.frame _, fun h => absurd h (by simp)⟩
 ·rw [e0, hsp, hrt]
  exact trodAll_cons_mk (shut_bool hb _) trodAll_mk0
 ·rw [e0, hsp]
  exact trodAll_stays hl _ _ _ _ hread hA hbel fun y hy => by simpa using hlt y hy
 ·rw [e0, hsp, hv]
  exact rfl
end
end Go.Ev
end
section
namespace Go.Ev
def SmT (n : Nat) : (t : Ty) → t.den → Prop
 | .int k, v => Rng k v
 | .bool, _ => True
 | .str, s => s.length ≤ n
 | .sl t, xs => xs.length ≤ n ∧ ∀ x ∈ xs, SmT n t x
 | .unit, _ => True
 | .any, _ => True
 | .osl _ _, _ => True
 | .mp _ _, _ => True
 | .omp _ _, _ => True
 | .pair a b, x => SmT n a x.1 ∧ SmT n b x.2
theorem rd_smT {H : Type} : ∀ (t : Ty) (x : t.den) (d : DataW H), Rd t x d → SmT maxLen t x
 | .int k, v, d, h => h.2
 | .bool, _, _, _ => trivial
 | .str, s, d, h => h.2
 | .unit, _, _, _ => trivial
 | .any, _, _, _ => trivial
 | .osl _ _, _, _, _ => trivial
 | .mp _ _, _, _, _ => trivial
 | .omp _ _, _, _, _ => trivial
 | .pair a b, x, d, ⟨p, ps, _, h1, h2⟩ => ⟨rd_smT a x.1 p h1, rd_smT b x.2 _ h2⟩
 | .sl t, xs, d, h => by
  rcases h with ⟨_, rfl⟩ | ⟨es, sp, _, hl, hm, he⟩
  ·exact ⟨Nat.zero_le _, fun x hx => by simp at hx⟩
  ·refine ⟨hm, fun x hx => ?_⟩
   obtain ⟨i, hi, rfl⟩ := List.mem_iff_getElem.1 hx
   have h1 : es[i]? = some es[i] := List.getElem?_eq_getElem (by omega)
   have := rd_smT t _ _ (he i _ h1)
   rwa [show xs.getD i t.zero = xs[i] by simp [List.getD_eq_getElem?_getD, hi]] at this
end Go.Ev
end
