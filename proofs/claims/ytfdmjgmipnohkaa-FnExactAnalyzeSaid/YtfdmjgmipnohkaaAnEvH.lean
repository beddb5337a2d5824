/- The evaluator and its soundness, part 8. -/
import Derived.Test.YtfdmjgmipnohkaaAnEvG
import Derived.Shelf.GgSortFunc.LotD
import Derived.Shelf.GgSortFunc.InsertionK
import Derived.Shelf.SlSortFuncK.ComposeK
import Derived.Shelf.GgSortMore.Stable
import Derived.Test.YtfdmjgmipnohkaaAnEvD
import Derived.Shelf.GgSortFunc.SmallK
import Derived.OpenShut
import Derived.ChangeArms
section
/- sort.symMerge_func at elements of k cells: the halves. -/
set_option linter.unusedSimpArgs false
set_option linter.unusedVariables false
namespace Go.Proofs
open Go.Shelf Go.RowKit Go.Lib Go.Sort Go.Ev
variable {P : Program} {ρ : Ren} {α : Type} [Inhabited α]
set_option maxHeartbeats 40000000 in
set_option maxRecDepth 100000 in
theorem Sb.symMerge_many (L : LaysGt.n30 P ρ) (enc : α → List Value) (k : Nat) (hk : ∀ x, (enc x).length = k) (lt : α → α → Bool) (hlt : Weak lt) (g : Nat) (lb : Array Value) (sf : Nat) (sb : Array Value) (blk off a m b : Nat) (ham : a < m) (d : Array α) (w : World)
    (eg : ∀ args w, (callFunc g args).run P w = .ok (.enter g args) w) (hless : LessB P g lb enc k lt blk off d.size w) (hswap : SwapSwapsK P sf sb enc k blk off d.size)
    (hH : HoldsK enc k w blk off d) (hblk : blk < w.heap.size) (hmb : m < b) (hn1 : ¬ m - a = 1) (hn2 : ¬ b - m = 1) (hb : b ≤ d.size) (hsz : d.size < 4611686018427387904) (hs1 : Srt lt (seg d a m)) (hs2 : Srt lt (seg d m b))
    (IH : ∀ (a' m' b' : Nat) (d' : Array α) (w' : World), b' - a' < b - a → a' < m' → m' < b' → b' ≤ d'.size → d'.size = d.size → LessB P g lb enc k lt blk off d.size w' → HoldsK enc k w' blk off d' → blk < w'.heap.size → Srt lt (seg d' a' m') → Srt lt (seg d' m' b') →
      Calls P (ρ.f 30) #[.agg (dat g lb sf sb), .int .i64 a', .int .i64 m', .int .i64 b'] w' fun e w'' => e = .returned (.tuple #[]) ∧ SWB enc k w' blk off (mrgA lt d' a' m' b') w'') :
    Calls P (ρ.f 30) #[.agg (dat g lb sf sb), .int .i64 a, .int .i64 m, .int .i64 b] w fun e w' => e = .returned (.tuple #[]) ∧ SWB enc k w blk off (mrgA lt d a m b) w' := by
  have mixed := L.mixed; have t0 := L.t0; have a0 := L.a0; have z0 := L.z0; have v0 := L.v0; have t3 := L.t3; have a3 := L.a3; have z3 := L.z3; have v3 := L.v3; have t4 := L.t4; have a4 := L.a4; have z4 := L.z4; have v4 := L.v4; have t26 := L.t26; have a26 := L.a26; have z26 := L.z26; have v26 := L.v26; have t38 := L.t38; have a38 := L.a38; have z38 := L.z38; have v38 := L.v38; have t42 := L.t42; have a42 := L.a42; have z42 := L.z42; have v42 := L.v42; have t47 := L.t47; have a47 := L.a47; have z47 := L.z47; have v47 := L.v47
  have u42 := run_underlying L.t42
  have hW1 : SWB enc k w blk off d (w.alloc (.cells (dat g lb sf sb) (ρ.t 42))) := (SWB.start hH).alloc _
  have hH1 : HoldsK enc k (w.alloc (.cells (dat g lb sf sb) (ρ.t 42))) blk off d := hW1.holds hblk hH rfl
  have hblk1 : blk < (w.alloc (.cells (dat g lb sf sb) (ρ.t 42))).heap.size := hW1.lt hblk
  have hL1 : LessB P g lb enc k lt blk off d.size (w.alloc (.cells (dat g lb sf sb) (ρ.t 42))) := hW1.lessReads hless hblk rfl
  have hT1 := (seg_srt (lt := lt) (show m ≤ d.size by omega)).1 hs1
  have hT2 := (seg_srt (lt := lt) hb).1 hs2
  have e30 : ∀ args w, (callFunc (ρ.f 30) args).run P w = .ok (.enter (ρ.f 30) args) w := enters_of L.f30 (by kernel_rfl) rfl
  have e42 : ∀ args w, (callFunc (ρ.f 42) args).run P w = .ok (.enter (ρ.f 42) args) w := enters_of L.f42 (by kernel_rfl) rfl
  have LR : LaysGt.n42 P ρ := { L with }
  have hz0 : ((m : Int) - (a : Int) == 1) = false := by simp; omega
  have hz1 : ((b : Int) - (m : Int) == 1) = false := by simp; omega
  obtain ⟨mid, hmid⟩ : ∃ mid, mid = (a + b) / 2 := ⟨_, rfl⟩
  have HMZ : Aside (((a : Int) + b) / 2 = (mid : Int)) := (show ((a : Int) + b) / 2 = (mid : Int) by omega)
  have HMID : Aside _ := hmid
  have HT1 : Aside _ := hT1
  have HT2 : Aside _ := hT2
  have HW1 : Aside _ := hW1
  have HH1 : Aside _ := hH1
  have HL1 : Aside _ := hL1
  have HSWP : Aside _ := hswap
  have HS1 : Aside _ := hs1
  have HS2 : Aside _ := hs2
  have IHH : Aside _ := IH
  clear hT1 hT2 hW1 hH1 hL1 hswap hs1 hs2 IH hless hH
  by_cases hgt : mid < m
  · have hgz : (m : Int) > ((a : Int) + b) / 2 := by omega
    obtain ⟨s0, hs0⟩ : ∃ s0, s0 + b = mid + m := ⟨mid + m - b, by omega⟩
    obtain ⟨r0, hr0⟩ : ∃ r0, r0 = mid := ⟨_, rfl⟩
    have h0 : (s0 = a ∧ r0 = m ∧ m ≤ mid) ∨ (s0 + b = mid + m ∧ r0 = mid ∧ mid < m) := .inr ⟨hs0, hr0, hgt⟩
    have H0 : Aside _ := h0
    have HRG : Aside _ := sym_range ham hmb hmid h0
    clear h0 hs0 hr0 hmid hgt
    go_enter L.f30, BodyGt.n30_ntmps ρ
    go_wp2
    go_loopw [18, 19] (fun vi vj wr => ∃ (i j : Nat), vi = .int .i64 i ∧ vj = .int .i64 j ∧ s0 ≤ i ∧ i ≤ j ∧ j ≤ r0 ∧ SWB enc k (w.alloc (.cells (dat g lb sf sb) (ρ.t 42))) blk off d wr ∧ (∀ q, s0 ≤ q → q < i → lt d[mid + m - 1 - q]! d[q]! = false) ∧ (∀ q, j ≤ q → q < r0 → lt d[mid + m - 1 - q]! d[q]! = true)) (fun vi vj _ => (intOf vj).toNat - (intOf vi).toNat)
    case atStart => exact ⟨s0, r0, by have h1 := HMID.out; have h2 := H0.out; congr 1; omega, by have h1 := HMID.out; have h2 := H0.out; congr 1; omega, Nat.le_refl _, HRG.out.2.1, Nat.le_refl _, SWB.start HH1.out, fun q h1 h2 => by omega, fun q h1 h2 => by omega⟩
    case round =>
      obtain ⟨i, j, rfl, rfl, hi0, hij, hjb, hS, hl, hr⟩ := hrel
      have c0 := swb_data hblk hS 0 (.func (.func g) #[] lb) (by simp)
      have c1 := swb_data hblk hS 1 (.func (.func sf) #[] sb) (by simp)
      have HS : Aside _ := hS
      have HL : Aside _ := hl
      have HR : Aside _ := hr
      have hls := fun (x y : Nat) (h1 : x < d.size) (h2 : y < d.size) => hS.less HL1.out rfl x y h1 h2
      have HLS : Aside _ := hls
      clear hS hl hr hls
      have hjm : j ≤ m := Nat.le_trans hjb HRG.out.2.2.1
      by_cases hz : i < j
      · have hz' : (i : Int) < j := by omega
        obtain ⟨p1, p2, p3, p4⟩ := HRG.out.2.2.2.2 ((i + j) / 2) (by omega) (by omega)
        have hl1 := HLS.out (mid + m - 1 - (i + j) / 2) ((i + j) / 2) (by omega) (by omega)
        rw [show ((mid + m - 1 - (i + j) / 2 : Nat) : Int) = ((a : Int) + b) / 2 + m - 1 - ((i : Int) + j) / 2 by have := HMID.out; omega, show (((i + j) / 2 : Nat) : Int) = ((i : Int) + j) / 2 by omega] at hl1
        have P1 : Aside _ := p1
        have P2 : Aside _ := p2
        have P3 : Aside _ := p3
        have P4 : Aside _ := p4
        clear p1 p2 p3 p4
        cases hv : lt d[mid + m - 1 - (i + j) / 2]! d[(i + j) / 2]! with
        | false =>
          rw [hv] at hl1
          go_wp2_with (go_at_fn g; refine hl1.mono ?_; rintro e w' ⟨rfl, hB⟩)
          go_roundw
          case rel => exact ⟨(i + j) / 2 + 1, j, by go_num, rfl, by omega, by omega, hjb, SWB.below HS.out hB, fun p h1 h2 => (Nat.lt_or_ge p ((i + j) / 2)).elim (fun h => by
            obtain ⟨g1, g2, g3, g4⟩ := HRG.out.2.2.2.2 p h1 (by omega)
            exact sym_low hlt HT1.out HT2.out g1 (by omega) P2.out P3.out (by omega) g4 hv) (fun h => by rw [show p = (i + j) / 2 by omega]; exact hv), HR.out⟩
          case measure => simp [intOf]; omega
        | true =>
          rw [hv] at hl1
          go_wp2_with (go_at_fn g; refine hl1.mono ?_; rintro e w' ⟨rfl, hB⟩)
          go_roundw
          case rel => exact ⟨i, (i + j) / 2, rfl, by go_num, hi0, by omega, by omega, SWB.below HS.out hB, HL.out, fun p h1 h2 => by
            obtain ⟨g1, g2, g3, g4⟩ := HRG.out.2.2.2.2 p (by omega) h2
            exact sym_high hlt HT1.out HT2.out P1.out h1 g2 g3 (by omega) P4.out hv⟩
          case measure => simp [intOf]; omega
      · obtain rfl : i = j := by omega
        have hz' : ¬ ((i : Int) < i) := by omega
        obtain ⟨⟨v1, v2, v3, v4, v5⟩, cl, cr⟩ := sym_cut hlt ham hmb HMID.out H0.out HT1.out HT2.out hi0 hjb HL.out HR.out
        have CL : Aside _ := cl
        have CR : Aside _ := cr
        clear cl cr
        have hE : ((mid + m - i : Nat) : Int) = ((a : Int) + b) / 2 + m - i := by have := HMID.out; omega
        have hM : ((mid : Nat) : Int) = ((a : Int) + b) / 2 := by have := HMID.out; omega
        have HE : Aside _ := hE
        have HM : Aside _ := hM
        have hHw := SWB.holds HS.out hblk1 HH1.out rfl
        have HHw : Aside _ := hHw
        have halv := sym_halves (lt := lt) (mid := mid) hlt v1 v2 v3 v4 hb (by omega) CL.out CR.out
        have HV : Aside _ := halv
        have HV3 : Aside (m ≤ mid + m - i) := v3
        have HV4 : Aside (mid + m - i ≤ b) := v4
        have HV5 : Aside (i ≤ mid) := v5
        clear hHw halv v3 v4 v5 hE hM
        have sz1 : (rotA d i m (mid + m - i)).size = d.size := rotA_size (by omega) HV3.out (by have := HV4.out; omega)
        have sz2 : (mrgA lt (rotA d i m (mid + m - i)) a i mid).size = d.size := by rw [mrgA_size lt (by omega) HV5.out (by have := HMID.out; omega), sz1]
        have SZ1 : Aside _ := sz1
        have SZ2 : Aside _ := sz2
        clear sz1 sz2
        have calls1 : ∀ W, SWB enc k (w.alloc (.cells (dat g lb sf sb) (ρ.t 42))) blk off (rotA d i m (mid + m - i)) W → a < i → i < mid → Calls P (ρ.f 30) #[.agg (dat g lb sf sb), .int .i64 a, .int .i64 i, .int .i64 (((a : Int) + b) / 2)] W fun e w'' => e = .returned (.tuple #[]) ∧ SWB enc k (w.alloc (.cells (dat g lb sf sb) (ρ.t 42))) blk off (mrgA lt (rotA d i m (mid + m - i)) a i mid) w'' := fun W hW g1 g2 => by
          have := IHH.out a i mid (rotA d i m (mid + m - i)) W (by have := HMID.out; omega) g1 g2 (by rw [SZ1.out]; have := HMID.out; omega) SZ1.out (hW.lessReads HL1.out hblk1 SZ1.out) (hW.holds hblk1 HH1.out SZ1.out) (hW.lt hblk1) (HV.out.2 HS1.out HS2.out).1 (HV.out.2 HS1.out HS2.out).2.1
          rw [HM.out] at this
          exact this.mono fun e w'' h => ⟨h.1, swb_down hblk1 hW h.2 (by rw [SZ2.out, SZ1.out])⟩
        have calls2 : ∀ W, SWB enc k (w.alloc (.cells (dat g lb sf sb) (ρ.t 42))) blk off (mrgA lt (rotA d i m (mid + m - i)) a i mid) W → i < m → mid + m - i < b → Calls P (ρ.f 30) #[.agg (dat g lb sf sb), .int .i64 (((a : Int) + b) / 2), .int .i64 (((a : Int) + b) / 2 + m - i), .int .i64 b] W fun e w'' => e = .returned (.tuple #[]) ∧ SWB enc k (w.alloc (.cells (dat g lb sf sb) (ρ.t 42))) blk off (mrgA lt d a m b) w'' := fun W hW g1 g2 => by
          have := IHH.out mid (mid + m - i) b (mrgA lt (rotA d i m (mid + m - i)) a i mid) W (by have := HMID.out; omega) (by omega) g2 (by rw [SZ2.out]; exact hb) SZ2.out (hW.lessReads HL1.out hblk1 SZ2.out) (hW.holds hblk1 HH1.out SZ2.out) (hW.lt hblk1) (HV.out.2 HS1.out HS2.out).2.2.1 (HV.out.2 HS1.out HS2.out).2.2.2
          rw [HM.out, HE.out, HV.out.1] at this
          exact this.mono fun e w'' h => ⟨h.1, swb_down hblk1 hW h.2 (by rw [mrgA_size lt (by omega) (by omega) hb, SZ2.out])⟩
        have rotc : i < m → m < mid + m - i → Calls P (ρ.f 42) #[.agg (dat g lb sf sb), .int .i64 i, .int .i64 m, .int .i64 (((a : Int) + b) / 2 + m - i)] wr fun e w'' => e = .returned (.tuple #[]) ∧ SWB enc k (w.alloc (.cells (dat g lb sf sb) (ρ.t 42))) blk off (rotA d i m (mid + m - i)) w'' := fun g1 g2 => by
          have := Sb.rotate LR enc k hk g lb sf sb blk off i m (mid + m - i) d wr HSWP.out HHw.out (SWB.lt HS.out hblk1) g1 g2 (by have := HV4.out; omega) hsz
          rw [HE.out] at this
          exact this.mono fun e w'' h => ⟨h.1, swb_down hblk1 HS.out h.2 SZ1.out⟩
        have rot0 : ¬ (i < m ∧ m < mid + m - i) → SWB enc k (w.alloc (.cells (dat g lb sf sb) (ρ.t 42))) blk off (rotA d i m (mid + m - i)) wr := fun g => by
          rw [rotA_id (by omega) HV3.out (by have := HV4.out; omega) g]; exact HS.out
        have sym0 : ∀ W, SWB enc k (w.alloc (.cells (dat g lb sf sb) (ρ.t 42))) blk off (rotA d i m (mid + m - i)) W → ¬ (a < i ∧ i < mid) → SWB enc k (w.alloc (.cells (dat g lb sf sb) (ρ.t 42))) blk off (mrgA lt (rotA d i m (mid + m - i)) a i mid) W := fun W hW g => by
          rw [mrgA_id (by omega) HV5.out (by rw [SZ1.out]; have := HMID.out; omega) g]; exact hW
        have sym9 : ∀ W, SWB enc k (w.alloc (.cells (dat g lb sf sb) (ρ.t 42))) blk off (mrgA lt (rotA d i m (mid + m - i)) a i mid) W → ¬ (mid < mid + m - i ∧ mid + m - i < b) → SWB enc k (w.alloc (.cells (dat g lb sf sb) (ρ.t 42))) blk off (mrgA lt d a m b) W := fun W hW g => by
          have h := HV.out.1
          rw [mrgA_id (d := mrgA lt (rotA d i m (mid + m - i)) a i mid) (by omega) HV4.out (by rw [SZ2.out]; exact hb) g] at h
          rw [← h]; exact hW
        have CALL1 : Aside _ := calls1
        have CALL2 : Aside _ := calls2
        have ROTC : Aside _ := rotc
        have ROT0 : Aside _ := rot0
        have SYM0 : Aside _ := sym0
        have SYM9 : Aside _ := sym9
        clear calls1 calls2 rotc rot0 sym0 sym9
        have hfin : ∀ W, SWB enc k (w.alloc (.cells (dat g lb sf sb) (ρ.t 42))) blk off (mrgA lt d a m b) W → SWB enc k w blk off (mrgA lt d a m b) W := fun W hW => swb_down hblk HW1.out hW (mrgA_size lt (by omega) (by omega) hb)
        have HFIN : Aside _ := hfin
        clear hfin
        by_cases A : i < m
        · have A1 : (i : Int) < m := by omega
          have A2 : ((a : Int) + b) / 2 < ((a : Int) + b) / 2 + m - i := by omega
          by_cases B : i < mid
          · have B1 : (m : Int) < ((a : Int) + b) / 2 + m - i := by have := HM.out; omega
            have B2 : (i : Int) < ((a : Int) + b) / 2 := by have := HM.out; omega
            by_cases C : a < i
            · have C1 : (a : Int) < i := by omega
              by_cases D : mid + m - i < b
              · have D1 : ((a : Int) + b) / 2 + m - i < b := by have := HE.out; omega
                have E1 : Aside (SWB enc k (w.alloc (.cells (dat g lb sf sb) (ρ.t 42))) blk off d wr) := HS.out
                go_wp2_with (first | (go_at_fn (ρ.f 42); refine (ROTC.out (by omega) (by omega)).mono ?_; rintro e w1 ⟨rfl, hS1⟩; have d10 := swb_data hblk hS1 0 (.func (.func g) #[] lb) (by simp); have d11 := swb_data hblk hS1 1 (.func (.func sf) #[] sb) (by simp)) | (go_at_fn_of (ρ.f 30) (Value.int .i64 (a : Int)); refine (CALL1.out _ hS1 (by omega) (by omega)).mono ?_; rintro e w2 ⟨rfl, hS2⟩; have d20 := swb_data hblk hS2 0 (.func (.func g) #[] lb) (by simp); have d21 := swb_data hblk hS2 1 (.func (.func sf) #[] sb) (by simp)) | (go_at_fn_of (ρ.f 30) (Value.int .i64 (b : Int)); refine (CALL2.out _ hS2 (by omega) (by omega)).mono ?_; rintro e w3 ⟨rfl, hS3⟩))
                all_goals (first | (go_end0; exact ⟨rfl, HFIN.out _ hS3⟩) | exact ⟨rfl, HFIN.out _ hS3⟩)
              · have D1 : ¬ (((a : Int) + b) / 2 + m - i < b) := by have := HE.out; omega
                have E1 : Aside (SWB enc k (w.alloc (.cells (dat g lb sf sb) (ρ.t 42))) blk off d wr) := HS.out
                go_wp2_with (first | (go_at_fn (ρ.f 42); refine (ROTC.out (by omega) (by omega)).mono ?_; rintro e w1 ⟨rfl, hS1⟩; have d10 := swb_data hblk hS1 0 (.func (.func g) #[] lb) (by simp); have d11 := swb_data hblk hS1 1 (.func (.func sf) #[] sb) (by simp)) | (go_at_fn_of (ρ.f 30) (Value.int .i64 (a : Int)); refine (CALL1.out _ hS1 (by omega) (by omega)).mono ?_; rintro e w2 ⟨rfl, hS2⟩; have d20 := swb_data hblk hS2 0 (.func (.func g) #[] lb) (by simp); have d21 := swb_data hblk hS2 1 (.func (.func sf) #[] sb) (by simp)))
                all_goals (first | (go_end0; exact ⟨rfl, HFIN.out _ (SYM9.out _ hS2 (by omega))⟩) | exact ⟨rfl, HFIN.out _ (SYM9.out _ hS2 (by omega))⟩)
            · have C1 : ¬ ((a : Int) < i) := by omega
              by_cases D : mid + m - i < b
              · have D1 : ((a : Int) + b) / 2 + m - i < b := by have := HE.out; omega
                have E1 : Aside (SWB enc k (w.alloc (.cells (dat g lb sf sb) (ρ.t 42))) blk off d wr) := HS.out
                go_wp2_with (first | (go_at_fn (ρ.f 42); refine (ROTC.out (by omega) (by omega)).mono ?_; rintro e w1 ⟨rfl, hS1⟩; have d10 := swb_data hblk hS1 0 (.func (.func g) #[] lb) (by simp); have d11 := swb_data hblk hS1 1 (.func (.func sf) #[] sb) (by simp)) | (go_at_fn_of (ρ.f 30) (Value.int .i64 (b : Int)); refine (CALL2.out _ (SYM0.out _ hS1 (by omega)) (by omega) (by omega)).mono ?_; rintro e w3 ⟨rfl, hS3⟩))
                all_goals (first | (go_end0; exact ⟨rfl, HFIN.out _ hS3⟩) | exact ⟨rfl, HFIN.out _ hS3⟩)
              · have D1 : ¬ (((a : Int) + b) / 2 + m - i < b) := by have := HE.out; omega
                have E1 : Aside (SWB enc k (w.alloc (.cells (dat g lb sf sb) (ρ.t 42))) blk off d wr) := HS.out
                go_wp2_with (first | (go_at_fn (ρ.f 42); refine (ROTC.out (by omega) (by omega)).mono ?_; rintro e w1 ⟨rfl, hS1⟩; have d10 := swb_data hblk hS1 0 (.func (.func g) #[] lb) (by simp); have d11 := swb_data hblk hS1 1 (.func (.func sf) #[] sb) (by simp)))
                all_goals (first | (go_end0; exact ⟨rfl, HFIN.out _ (SYM9.out _ (SYM0.out _ hS1 (by omega)) (by omega))⟩) | exact ⟨rfl, HFIN.out _ (SYM9.out _ (SYM0.out _ hS1 (by omega)) (by omega))⟩)
          · have B1 : ¬ ((m : Int) < ((a : Int) + b) / 2 + m - i) := by have := HM.out; omega
            have B2 : ¬ ((i : Int) < ((a : Int) + b) / 2) := by have := HM.out; omega
            by_cases C : a < i
            · have C1 : (a : Int) < i := by omega
              by_cases D : mid + m - i < b
              · have D1 : ((a : Int) + b) / 2 + m - i < b := by have := HE.out; omega
                have E1 : Aside (SWB enc k (w.alloc (.cells (dat g lb sf sb) (ρ.t 42))) blk off d wr) := HS.out
                have hS1 := ROT0.out (by omega)
                go_wp2_with (first | (go_at_fn_of (ρ.f 30) (Value.int .i64 (b : Int)); refine (CALL2.out _ (SYM0.out _ hS1 (by omega)) (by omega) (by omega)).mono ?_; rintro e w3 ⟨rfl, hS3⟩))
                all_goals (first | (go_end0; exact ⟨rfl, HFIN.out _ hS3⟩) | exact ⟨rfl, HFIN.out _ hS3⟩)
              · have D1 : ¬ (((a : Int) + b) / 2 + m - i < b) := by have := HE.out; omega
                have E1 : Aside (SWB enc k (w.alloc (.cells (dat g lb sf sb) (ρ.t 42))) blk off d wr) := HS.out
                have hS1 := ROT0.out (by omega)
                go_wp2
                all_goals (first | (go_end0; exact ⟨rfl, HFIN.out _ (SYM9.out _ (SYM0.out _ hS1 (by omega)) (by omega))⟩) | exact ⟨rfl, HFIN.out _ (SYM9.out _ (SYM0.out _ hS1 (by omega)) (by omega))⟩)
            · have C1 : ¬ ((a : Int) < i) := by omega
              by_cases D : mid + m - i < b
              · have D1 : ((a : Int) + b) / 2 + m - i < b := by have := HE.out; omega
                have E1 : Aside (SWB enc k (w.alloc (.cells (dat g lb sf sb) (ρ.t 42))) blk off d wr) := HS.out
                have hS1 := ROT0.out (by omega)
                go_wp2_with (first | (go_at_fn_of (ρ.f 30) (Value.int .i64 (b : Int)); refine (CALL2.out _ (SYM0.out _ hS1 (by omega)) (by omega) (by omega)).mono ?_; rintro e w3 ⟨rfl, hS3⟩))
                all_goals (first | (go_end0; exact ⟨rfl, HFIN.out _ hS3⟩) | exact ⟨rfl, HFIN.out _ hS3⟩)
              · have D1 : ¬ (((a : Int) + b) / 2 + m - i < b) := by have := HE.out; omega
                have E1 : Aside (SWB enc k (w.alloc (.cells (dat g lb sf sb) (ρ.t 42))) blk off d wr) := HS.out
                have hS1 := ROT0.out (by omega)
                go_wp2
                all_goals (first | (go_end0; exact ⟨rfl, HFIN.out _ (SYM9.out _ (SYM0.out _ hS1 (by omega)) (by omega))⟩) | exact ⟨rfl, HFIN.out _ (SYM9.out _ (SYM0.out _ hS1 (by omega)) (by omega))⟩)
        · have A1 : ¬ ((i : Int) < m) := by omega
          have A2 : ¬ (((a : Int) + b) / 2 < ((a : Int) + b) / 2 + m - i) := by omega
          by_cases B : i < mid
          · have B1 : (m : Int) < ((a : Int) + b) / 2 + m - i := by have := HM.out; omega
            have B2 : (i : Int) < ((a : Int) + b) / 2 := by have := HM.out; omega
            by_cases C : a < i
            · have C1 : (a : Int) < i := by omega
              by_cases D : mid + m - i < b
              · have D1 : ((a : Int) + b) / 2 + m - i < b := by have := HE.out; omega
                have E1 : Aside (SWB enc k (w.alloc (.cells (dat g lb sf sb) (ρ.t 42))) blk off d wr) := HS.out
                have hS1 := ROT0.out (by omega)
                go_wp2_with (first | (go_at_fn_of (ρ.f 30) (Value.int .i64 (a : Int)); refine (CALL1.out _ hS1 (by omega) (by omega)).mono ?_; rintro e w2 ⟨rfl, hS2⟩; have d20 := swb_data hblk hS2 0 (.func (.func g) #[] lb) (by simp); have d21 := swb_data hblk hS2 1 (.func (.func sf) #[] sb) (by simp)))
                all_goals (first | (go_end0; exact ⟨rfl, HFIN.out _ (SYM9.out _ hS2 (by omega))⟩) | exact ⟨rfl, HFIN.out _ (SYM9.out _ hS2 (by omega))⟩)
              · have D1 : ¬ (((a : Int) + b) / 2 + m - i < b) := by have := HE.out; omega
                have E1 : Aside (SWB enc k (w.alloc (.cells (dat g lb sf sb) (ρ.t 42))) blk off d wr) := HS.out
                have hS1 := ROT0.out (by omega)
                go_wp2_with (first | (go_at_fn_of (ρ.f 30) (Value.int .i64 (a : Int)); refine (CALL1.out _ hS1 (by omega) (by omega)).mono ?_; rintro e w2 ⟨rfl, hS2⟩; have d20 := swb_data hblk hS2 0 (.func (.func g) #[] lb) (by simp); have d21 := swb_data hblk hS2 1 (.func (.func sf) #[] sb) (by simp)))
                all_goals (first | (go_end0; exact ⟨rfl, HFIN.out _ (SYM9.out _ hS2 (by omega))⟩) | exact ⟨rfl, HFIN.out _ (SYM9.out _ hS2 (by omega))⟩)
            · have C1 : ¬ ((a : Int) < i) := by omega
              by_cases D : mid + m - i < b
              · have D1 : ((a : Int) + b) / 2 + m - i < b := by have := HE.out; omega
                have E1 : Aside (SWB enc k (w.alloc (.cells (dat g lb sf sb) (ρ.t 42))) blk off d wr) := HS.out
                have hS1 := ROT0.out (by omega)
                go_wp2
                all_goals (first | (go_end0; exact ⟨rfl, HFIN.out _ (SYM9.out _ (SYM0.out _ hS1 (by omega)) (by omega))⟩) | exact ⟨rfl, HFIN.out _ (SYM9.out _ (SYM0.out _ hS1 (by omega)) (by omega))⟩)
              · have D1 : ¬ (((a : Int) + b) / 2 + m - i < b) := by have := HE.out; omega
                have E1 : Aside (SWB enc k (w.alloc (.cells (dat g lb sf sb) (ρ.t 42))) blk off d wr) := HS.out
                have hS1 := ROT0.out (by omega)
                go_wp2
                all_goals (first | (go_end0; exact ⟨rfl, HFIN.out _ (SYM9.out _ (SYM0.out _ hS1 (by omega)) (by omega))⟩) | exact ⟨rfl, HFIN.out _ (SYM9.out _ (SYM0.out _ hS1 (by omega)) (by omega))⟩)
          · have B1 : ¬ ((m : Int) < ((a : Int) + b) / 2 + m - i) := by have := HM.out; omega
            have B2 : ¬ ((i : Int) < ((a : Int) + b) / 2) := by have := HM.out; omega
            by_cases C : a < i
            · have C1 : (a : Int) < i := by omega
              by_cases D : mid + m - i < b
              · have D1 : ((a : Int) + b) / 2 + m - i < b := by have := HE.out; omega
                have E1 : Aside (SWB enc k (w.alloc (.cells (dat g lb sf sb) (ρ.t 42))) blk off d wr) := HS.out
                have hS1 := ROT0.out (by omega)
                go_wp2
                all_goals (first | (go_end0; exact ⟨rfl, HFIN.out _ (SYM9.out _ (SYM0.out _ hS1 (by omega)) (by omega))⟩) | exact ⟨rfl, HFIN.out _ (SYM9.out _ (SYM0.out _ hS1 (by omega)) (by omega))⟩)
              · have D1 : ¬ (((a : Int) + b) / 2 + m - i < b) := by have := HE.out; omega
                have E1 : Aside (SWB enc k (w.alloc (.cells (dat g lb sf sb) (ρ.t 42))) blk off d wr) := HS.out
                have hS1 := ROT0.out (by omega)
                go_wp2
                all_goals (first | (go_end0; exact ⟨rfl, HFIN.out _ (SYM9.out _ (SYM0.out _ hS1 (by omega)) (by omega))⟩) | exact ⟨rfl, HFIN.out _ (SYM9.out _ (SYM0.out _ hS1 (by omega)) (by omega))⟩)
            · have C1 : ¬ ((a : Int) < i) := by omega
              by_cases D : mid + m - i < b
              · have D1 : ((a : Int) + b) / 2 + m - i < b := by have := HE.out; omega
                have E1 : Aside (SWB enc k (w.alloc (.cells (dat g lb sf sb) (ρ.t 42))) blk off d wr) := HS.out
                have hS1 := ROT0.out (by omega)
                go_wp2
                all_goals (first | (go_end0; exact ⟨rfl, HFIN.out _ (SYM9.out _ (SYM0.out _ hS1 (by omega)) (by omega))⟩) | exact ⟨rfl, HFIN.out _ (SYM9.out _ (SYM0.out _ hS1 (by omega)) (by omega))⟩)
              · have D1 : ¬ (((a : Int) + b) / 2 + m - i < b) := by have := HE.out; omega
                have E1 : Aside (SWB enc k (w.alloc (.cells (dat g lb sf sb) (ρ.t 42))) blk off d wr) := HS.out
                have hS1 := ROT0.out (by omega)
                go_wp2
                all_goals (first | (go_end0; exact ⟨rfl, HFIN.out _ (SYM9.out _ (SYM0.out _ hS1 (by omega)) (by omega))⟩) | exact ⟨rfl, HFIN.out _ (SYM9.out _ (SYM0.out _ hS1 (by omega)) (by omega))⟩)
  · have hgz : ¬ (m : Int) > ((a : Int) + b) / 2 := by omega
    obtain ⟨s0, hs0⟩ : ∃ s0, s0 = a := ⟨_, rfl⟩
    obtain ⟨r0, hr0⟩ : ∃ r0, r0 = m := ⟨_, rfl⟩
    have h0 : (s0 = a ∧ r0 = m ∧ m ≤ mid) ∨ (s0 + b = mid + m ∧ r0 = mid ∧ mid < m) := .inl ⟨hs0, hr0, by omega⟩
    have H0 : Aside _ := h0
    have HRG : Aside _ := sym_range ham hmb hmid h0
    clear h0 hs0 hr0 hmid hgt
    go_enter L.f30, BodyGt.n30_ntmps ρ
    go_wp2
    go_loopw [18, 19] (fun vi vj wr => ∃ (i j : Nat), vi = .int .i64 i ∧ vj = .int .i64 j ∧ s0 ≤ i ∧ i ≤ j ∧ j ≤ r0 ∧ SWB enc k (w.alloc (.cells (dat g lb sf sb) (ρ.t 42))) blk off d wr ∧ (∀ q, s0 ≤ q → q < i → lt d[mid + m - 1 - q]! d[q]! = false) ∧ (∀ q, j ≤ q → q < r0 → lt d[mid + m - 1 - q]! d[q]! = true)) (fun vi vj _ => (intOf vj).toNat - (intOf vi).toNat)
    case atStart => exact ⟨s0, r0, by have h1 := HMID.out; have h2 := H0.out; congr 1; omega, by have h1 := HMID.out; have h2 := H0.out; congr 1; omega, Nat.le_refl _, HRG.out.2.1, Nat.le_refl _, SWB.start HH1.out, fun q h1 h2 => by omega, fun q h1 h2 => by omega⟩
    case round =>
      obtain ⟨i, j, rfl, rfl, hi0, hij, hjb, hS, hl, hr⟩ := hrel
      have c0 := swb_data hblk hS 0 (.func (.func g) #[] lb) (by simp)
      have c1 := swb_data hblk hS 1 (.func (.func sf) #[] sb) (by simp)
      have HS : Aside _ := hS
      have HL : Aside _ := hl
      have HR : Aside _ := hr
      have hls := fun (x y : Nat) (h1 : x < d.size) (h2 : y < d.size) => hS.less HL1.out rfl x y h1 h2
      have HLS : Aside _ := hls
      clear hS hl hr hls
      have hjm : j ≤ m := Nat.le_trans hjb HRG.out.2.2.1
      by_cases hz : i < j
      · have hz' : (i : Int) < j := by omega
        obtain ⟨p1, p2, p3, p4⟩ := HRG.out.2.2.2.2 ((i + j) / 2) (by omega) (by omega)
        have hl1 := HLS.out (mid + m - 1 - (i + j) / 2) ((i + j) / 2) (by omega) (by omega)
        rw [show ((mid + m - 1 - (i + j) / 2 : Nat) : Int) = ((a : Int) + b) / 2 + m - 1 - ((i : Int) + j) / 2 by have := HMID.out; omega, show (((i + j) / 2 : Nat) : Int) = ((i : Int) + j) / 2 by omega] at hl1
        have P1 : Aside _ := p1
        have P2 : Aside _ := p2
        have P3 : Aside _ := p3
        have P4 : Aside _ := p4
        clear p1 p2 p3 p4
        cases hv : lt d[mid + m - 1 - (i + j) / 2]! d[(i + j) / 2]! with
        | false =>
          rw [hv] at hl1
          go_wp2_with (go_at_fn g; refine hl1.mono ?_; rintro e w' ⟨rfl, hB⟩)
          go_roundw
          case rel => exact ⟨(i + j) / 2 + 1, j, by go_num, rfl, by omega, by omega, hjb, SWB.below HS.out hB, fun p h1 h2 => (Nat.lt_or_ge p ((i + j) / 2)).elim (fun h => by
            obtain ⟨g1, g2, g3, g4⟩ := HRG.out.2.2.2.2 p h1 (by omega)
            exact sym_low hlt HT1.out HT2.out g1 (by omega) P2.out P3.out (by omega) g4 hv) (fun h => by rw [show p = (i + j) / 2 by omega]; exact hv), HR.out⟩
          case measure => simp [intOf]; omega
        | true =>
          rw [hv] at hl1
          go_wp2_with (go_at_fn g; refine hl1.mono ?_; rintro e w' ⟨rfl, hB⟩)
          go_roundw
          case rel => exact ⟨i, (i + j) / 2, rfl, by go_num, hi0, by omega, by omega, SWB.below HS.out hB, HL.out, fun p h1 h2 => by
            obtain ⟨g1, g2, g3, g4⟩ := HRG.out.2.2.2.2 p (by omega) h2
            exact sym_high hlt HT1.out HT2.out P1.out h1 g2 g3 (by omega) P4.out hv⟩
          case measure => simp [intOf]; omega
      · obtain rfl : i = j := by omega
        have hz' : ¬ ((i : Int) < i) := by omega
        obtain ⟨⟨v1, v2, v3, v4, v5⟩, cl, cr⟩ := sym_cut hlt ham hmb HMID.out H0.out HT1.out HT2.out hi0 hjb HL.out HR.out
        have CL : Aside _ := cl
        have CR : Aside _ := cr
        clear cl cr
        have hE : ((mid + m - i : Nat) : Int) = ((a : Int) + b) / 2 + m - i := by have := HMID.out; omega
        have hM : ((mid : Nat) : Int) = ((a : Int) + b) / 2 := by have := HMID.out; omega
        have HE : Aside _ := hE
        have HM : Aside _ := hM
        have hHw := SWB.holds HS.out hblk1 HH1.out rfl
        have HHw : Aside _ := hHw
        have halv := sym_halves (lt := lt) (mid := mid) hlt v1 v2 v3 v4 hb (by omega) CL.out CR.out
        have HV : Aside _ := halv
        have HV3 : Aside (m ≤ mid + m - i) := v3
        have HV4 : Aside (mid + m - i ≤ b) := v4
        have HV5 : Aside (i ≤ mid) := v5
        clear hHw halv v3 v4 v5 hE hM
        have sz1 : (rotA d i m (mid + m - i)).size = d.size := rotA_size (by omega) HV3.out (by have := HV4.out; omega)
        have sz2 : (mrgA lt (rotA d i m (mid + m - i)) a i mid).size = d.size := by rw [mrgA_size lt (by omega) HV5.out (by have := HMID.out; omega), sz1]
        have SZ1 : Aside _ := sz1
        have SZ2 : Aside _ := sz2
        clear sz1 sz2
        have calls1 : ∀ W, SWB enc k (w.alloc (.cells (dat g lb sf sb) (ρ.t 42))) blk off (rotA d i m (mid + m - i)) W → a < i → i < mid → Calls P (ρ.f 30) #[.agg (dat g lb sf sb), .int .i64 a, .int .i64 i, .int .i64 (((a : Int) + b) / 2)] W fun e w'' => e = .returned (.tuple #[]) ∧ SWB enc k (w.alloc (.cells (dat g lb sf sb) (ρ.t 42))) blk off (mrgA lt (rotA d i m (mid + m - i)) a i mid) w'' := fun W hW g1 g2 => by
          have := IHH.out a i mid (rotA d i m (mid + m - i)) W (by have := HMID.out; omega) g1 g2 (by rw [SZ1.out]; have := HMID.out; omega) SZ1.out (hW.lessReads HL1.out hblk1 SZ1.out) (hW.holds hblk1 HH1.out SZ1.out) (hW.lt hblk1) (HV.out.2 HS1.out HS2.out).1 (HV.out.2 HS1.out HS2.out).2.1
          rw [HM.out] at this
          exact this.mono fun e w'' h => ⟨h.1, swb_down hblk1 hW h.2 (by rw [SZ2.out, SZ1.out])⟩
        have calls2 : ∀ W, SWB enc k (w.alloc (.cells (dat g lb sf sb) (ρ.t 42))) blk off (mrgA lt (rotA d i m (mid + m - i)) a i mid) W → i < m → mid + m - i < b → Calls P (ρ.f 30) #[.agg (dat g lb sf sb), .int .i64 (((a : Int) + b) / 2), .int .i64 (((a : Int) + b) / 2 + m - i), .int .i64 b] W fun e w'' => e = .returned (.tuple #[]) ∧ SWB enc k (w.alloc (.cells (dat g lb sf sb) (ρ.t 42))) blk off (mrgA lt d a m b) w'' := fun W hW g1 g2 => by
          have := IHH.out mid (mid + m - i) b (mrgA lt (rotA d i m (mid + m - i)) a i mid) W (by have := HMID.out; omega) (by omega) g2 (by rw [SZ2.out]; exact hb) SZ2.out (hW.lessReads HL1.out hblk1 SZ2.out) (hW.holds hblk1 HH1.out SZ2.out) (hW.lt hblk1) (HV.out.2 HS1.out HS2.out).2.2.1 (HV.out.2 HS1.out HS2.out).2.2.2
          rw [HM.out, HE.out, HV.out.1] at this
          exact this.mono fun e w'' h => ⟨h.1, swb_down hblk1 hW h.2 (by rw [mrgA_size lt (by omega) (by omega) hb, SZ2.out])⟩
        have rotc : i < m → m < mid + m - i → Calls P (ρ.f 42) #[.agg (dat g lb sf sb), .int .i64 i, .int .i64 m, .int .i64 (((a : Int) + b) / 2 + m - i)] wr fun e w'' => e = .returned (.tuple #[]) ∧ SWB enc k (w.alloc (.cells (dat g lb sf sb) (ρ.t 42))) blk off (rotA d i m (mid + m - i)) w'' := fun g1 g2 => by
          have := Sb.rotate LR enc k hk g lb sf sb blk off i m (mid + m - i) d wr HSWP.out HHw.out (SWB.lt HS.out hblk1) g1 g2 (by have := HV4.out; omega) hsz
          rw [HE.out] at this
          exact this.mono fun e w'' h => ⟨h.1, swb_down hblk1 HS.out h.2 SZ1.out⟩
        have rot0 : ¬ (i < m ∧ m < mid + m - i) → SWB enc k (w.alloc (.cells (dat g lb sf sb) (ρ.t 42))) blk off (rotA d i m (mid + m - i)) wr := fun g => by
          rw [rotA_id (by omega) HV3.out (by have := HV4.out; omega) g]; exact HS.out
        have sym0 : ∀ W, SWB enc k (w.alloc (.cells (dat g lb sf sb) (ρ.t 42))) blk off (rotA d i m (mid + m - i)) W → ¬ (a < i ∧ i < mid) → SWB enc k (w.alloc (.cells (dat g lb sf sb) (ρ.t 42))) blk off (mrgA lt (rotA d i m (mid + m - i)) a i mid) W := fun W hW g => by
          rw [mrgA_id (by omega) HV5.out (by rw [SZ1.out]; have := HMID.out; omega) g]; exact hW
        have sym9 : ∀ W, SWB enc k (w.alloc (.cells (dat g lb sf sb) (ρ.t 42))) blk off (mrgA lt (rotA d i m (mid + m - i)) a i mid) W → ¬ (mid < mid + m - i ∧ mid + m - i < b) → SWB enc k (w.alloc (.cells (dat g lb sf sb) (ρ.t 42))) blk off (mrgA lt d a m b) W := fun W hW g => by
          have h := HV.out.1
          rw [mrgA_id (d := mrgA lt (rotA d i m (mid + m - i)) a i mid) (by omega) HV4.out (by rw [SZ2.out]; exact hb) g] at h
          rw [← h]; exact hW
        have CALL1 : Aside _ := calls1
        have CALL2 : Aside _ := calls2
        have ROTC : Aside _ := rotc
        have ROT0 : Aside _ := rot0
        have SYM0 : Aside _ := sym0
        have SYM9 : Aside _ := sym9
        clear calls1 calls2 rotc rot0 sym0 sym9
        have hfin : ∀ W, SWB enc k (w.alloc (.cells (dat g lb sf sb) (ρ.t 42))) blk off (mrgA lt d a m b) W → SWB enc k w blk off (mrgA lt d a m b) W := fun W hW => swb_down hblk HW1.out hW (mrgA_size lt (by omega) (by omega) hb)
        have HFIN : Aside _ := hfin
        clear hfin
        by_cases A : i < m
        · have A1 : (i : Int) < m := by omega
          have A2 : ((a : Int) + b) / 2 < ((a : Int) + b) / 2 + m - i := by omega
          by_cases B : i < mid
          · have B1 : (m : Int) < ((a : Int) + b) / 2 + m - i := by have := HM.out; omega
            have B2 : (i : Int) < ((a : Int) + b) / 2 := by have := HM.out; omega
            by_cases C : a < i
            · have C1 : (a : Int) < i := by omega
              by_cases D : mid + m - i < b
              · have D1 : ((a : Int) + b) / 2 + m - i < b := by have := HE.out; omega
                have E1 : Aside (SWB enc k (w.alloc (.cells (dat g lb sf sb) (ρ.t 42))) blk off d wr) := HS.out
                go_wp2_with (first | (go_at_fn (ρ.f 42); refine (ROTC.out (by omega) (by omega)).mono ?_; rintro e w1 ⟨rfl, hS1⟩; have d10 := swb_data hblk hS1 0 (.func (.func g) #[] lb) (by simp); have d11 := swb_data hblk hS1 1 (.func (.func sf) #[] sb) (by simp)) | (go_at_fn_of (ρ.f 30) (Value.int .i64 (a : Int)); refine (CALL1.out _ hS1 (by omega) (by omega)).mono ?_; rintro e w2 ⟨rfl, hS2⟩; have d20 := swb_data hblk hS2 0 (.func (.func g) #[] lb) (by simp); have d21 := swb_data hblk hS2 1 (.func (.func sf) #[] sb) (by simp)) | (go_at_fn_of (ρ.f 30) (Value.int .i64 (b : Int)); refine (CALL2.out _ hS2 (by omega) (by omega)).mono ?_; rintro e w3 ⟨rfl, hS3⟩))
                all_goals (first | (go_end0; exact ⟨rfl, HFIN.out _ hS3⟩) | exact ⟨rfl, HFIN.out _ hS3⟩)
              · have D1 : ¬ (((a : Int) + b) / 2 + m - i < b) := by have := HE.out; omega
                have E1 : Aside (SWB enc k (w.alloc (.cells (dat g lb sf sb) (ρ.t 42))) blk off d wr) := HS.out
                go_wp2_with (first | (go_at_fn (ρ.f 42); refine (ROTC.out (by omega) (by omega)).mono ?_; rintro e w1 ⟨rfl, hS1⟩; have d10 := swb_data hblk hS1 0 (.func (.func g) #[] lb) (by simp); have d11 := swb_data hblk hS1 1 (.func (.func sf) #[] sb) (by simp)) | (go_at_fn_of (ρ.f 30) (Value.int .i64 (a : Int)); refine (CALL1.out _ hS1 (by omega) (by omega)).mono ?_; rintro e w2 ⟨rfl, hS2⟩; have d20 := swb_data hblk hS2 0 (.func (.func g) #[] lb) (by simp); have d21 := swb_data hblk hS2 1 (.func (.func sf) #[] sb) (by simp)))
                all_goals (first | (go_end0; exact ⟨rfl, HFIN.out _ (SYM9.out _ hS2 (by omega))⟩) | exact ⟨rfl, HFIN.out _ (SYM9.out _ hS2 (by omega))⟩)
            · have C1 : ¬ ((a : Int) < i) := by omega
              by_cases D : mid + m - i < b
              · have D1 : ((a : Int) + b) / 2 + m - i < b := by have := HE.out; omega
                have E1 : Aside (SWB enc k (w.alloc (.cells (dat g lb sf sb) (ρ.t 42))) blk off d wr) := HS.out
                go_wp2_with (first | (go_at_fn (ρ.f 42); refine (ROTC.out (by omega) (by omega)).mono ?_; rintro e w1 ⟨rfl, hS1⟩; have d10 := swb_data hblk hS1 0 (.func (.func g) #[] lb) (by simp); have d11 := swb_data hblk hS1 1 (.func (.func sf) #[] sb) (by simp)) | (go_at_fn_of (ρ.f 30) (Value.int .i64 (b : Int)); refine (CALL2.out _ (SYM0.out _ hS1 (by omega)) (by omega) (by omega)).mono ?_; rintro e w3 ⟨rfl, hS3⟩))
                all_goals (first | (go_end0; exact ⟨rfl, HFIN.out _ hS3⟩) | exact ⟨rfl, HFIN.out _ hS3⟩)
              · have D1 : ¬ (((a : Int) + b) / 2 + m - i < b) := by have := HE.out; omega
                have E1 : Aside (SWB enc k (w.alloc (.cells (dat g lb sf sb) (ρ.t 42))) blk off d wr) := HS.out
                go_wp2_with (first | (go_at_fn (ρ.f 42); refine (ROTC.out (by omega) (by omega)).mono ?_; rintro e w1 ⟨rfl, hS1⟩; have d10 := swb_data hblk hS1 0 (.func (.func g) #[] lb) (by simp); have d11 := swb_data hblk hS1 1 (.func (.func sf) #[] sb) (by simp)))
                all_goals (first | (go_end0; exact ⟨rfl, HFIN.out _ (SYM9.out _ (SYM0.out _ hS1 (by omega)) (by omega))⟩) | exact ⟨rfl, HFIN.out _ (SYM9.out _ (SYM0.out _ hS1 (by omega)) (by omega))⟩)
          · have B1 : ¬ ((m : Int) < ((a : Int) + b) / 2 + m - i) := by have := HM.out; omega
            have B2 : ¬ ((i : Int) < ((a : Int) + b) / 2) := by have := HM.out; omega
            by_cases C : a < i
            · have C1 : (a : Int) < i := by omega
              by_cases D : mid + m - i < b
              · have D1 : ((a : Int) + b) / 2 + m - i < b := by have := HE.out; omega
                have E1 : Aside (SWB enc k (w.alloc (.cells (dat g lb sf sb) (ρ.t 42))) blk off d wr) := HS.out
                have hS1 := ROT0.out (by omega)
                go_wp2_with (first | (go_at_fn_of (ρ.f 30) (Value.int .i64 (b : Int)); refine (CALL2.out _ (SYM0.out _ hS1 (by omega)) (by omega) (by omega)).mono ?_; rintro e w3 ⟨rfl, hS3⟩))
                all_goals (first | (go_end0; exact ⟨rfl, HFIN.out _ hS3⟩) | exact ⟨rfl, HFIN.out _ hS3⟩)
              · have D1 : ¬ (((a : Int) + b) / 2 + m - i < b) := by have := HE.out; omega
                have E1 : Aside (SWB enc k (w.alloc (.cells (dat g lb sf sb) (ρ.t 42))) blk off d wr) := HS.out
                have hS1 := ROT0.out (by omega)
                go_wp2
                all_goals (first | (go_end0; exact ⟨rfl, HFIN.out _ (SYM9.out _ (SYM0.out _ hS1 (by omega)) (by omega))⟩) | exact ⟨rfl, HFIN.out _ (SYM9.out _ (SYM0.out _ hS1 (by omega)) (by omega))⟩)
            · have C1 : ¬ ((a : Int) < i) := by omega
              by_cases D : mid + m - i < b
              · have D1 : ((a : Int) + b) / 2 + m - i < b := by have := HE.out; omega
                have E1 : Aside (SWB enc k (w.alloc (.cells (dat g lb sf sb) (ρ.t 42))) blk off d wr) := HS.out
                have hS1 := ROT0.out (by omega)
                go_wp2_with (first | (go_at_fn_of (ρ.f 30) (Value.int .i64 (b : Int)); refine (CALL2.out _ (SYM0.out _ hS1 (by omega)) (by omega) (by omega)).mono ?_; rintro e w3 ⟨rfl, hS3⟩))
                all_goals (first | (go_end0; exact ⟨rfl, HFIN.out _ hS3⟩) | exact ⟨rfl, HFIN.out _ hS3⟩)
              · have D1 : ¬ (((a : Int) + b) / 2 + m - i < b) := by have := HE.out; omega
                have E1 : Aside (SWB enc k (w.alloc (.cells (dat g lb sf sb) (ρ.t 42))) blk off d wr) := HS.out
                have hS1 := ROT0.out (by omega)
                go_wp2
                all_goals (first | (go_end0; exact ⟨rfl, HFIN.out _ (SYM9.out _ (SYM0.out _ hS1 (by omega)) (by omega))⟩) | exact ⟨rfl, HFIN.out _ (SYM9.out _ (SYM0.out _ hS1 (by omega)) (by omega))⟩)
        · have A1 : ¬ ((i : Int) < m) := by omega
          have A2 : ¬ (((a : Int) + b) / 2 < ((a : Int) + b) / 2 + m - i) := by omega
          by_cases B : i < mid
          · have B1 : (m : Int) < ((a : Int) + b) / 2 + m - i := by have := HM.out; omega
            have B2 : (i : Int) < ((a : Int) + b) / 2 := by have := HM.out; omega
            by_cases C : a < i
            · have C1 : (a : Int) < i := by omega
              by_cases D : mid + m - i < b
              · have D1 : ((a : Int) + b) / 2 + m - i < b := by have := HE.out; omega
                have E1 : Aside (SWB enc k (w.alloc (.cells (dat g lb sf sb) (ρ.t 42))) blk off d wr) := HS.out
                have hS1 := ROT0.out (by omega)
                go_wp2_with (first | (go_at_fn_of (ρ.f 30) (Value.int .i64 (a : Int)); refine (CALL1.out _ hS1 (by omega) (by omega)).mono ?_; rintro e w2 ⟨rfl, hS2⟩; have d20 := swb_data hblk hS2 0 (.func (.func g) #[] lb) (by simp); have d21 := swb_data hblk hS2 1 (.func (.func sf) #[] sb) (by simp)))
                all_goals (first | (go_end0; exact ⟨rfl, HFIN.out _ (SYM9.out _ hS2 (by omega))⟩) | exact ⟨rfl, HFIN.out _ (SYM9.out _ hS2 (by omega))⟩)
              · have D1 : ¬ (((a : Int) + b) / 2 + m - i < b) := by have := HE.out; omega
                have E1 : Aside (SWB enc k (w.alloc (.cells (dat g lb sf sb) (ρ.t 42))) blk off d wr) := HS.out
                have hS1 := ROT0.out (by omega)
                go_wp2_with (first | (go_at_fn_of (ρ.f 30) (Value.int .i64 (a : Int)); refine (CALL1.out _ hS1 (by omega) (by omega)).mono ?_; rintro e w2 ⟨rfl, hS2⟩; have d20 := swb_data hblk hS2 0 (.func (.func g) #[] lb) (by simp); have d21 := swb_data hblk hS2 1 (.func (.func sf) #[] sb) (by simp)))
                all_goals (first | (go_end0; exact ⟨rfl, HFIN.out _ (SYM9.out _ hS2 (by omega))⟩) | exact ⟨rfl, HFIN.out _ (SYM9.out _ hS2 (by omega))⟩)
            · have C1 : ¬ ((a : Int) < i) := by omega
              by_cases D : mid + m - i < b
              · have D1 : ((a : Int) + b) / 2 + m - i < b := by have := HE.out; omega
                have E1 : Aside (SWB enc k (w.alloc (.cells (dat g lb sf sb) (ρ.t 42))) blk off d wr) := HS.out
                have hS1 := ROT0.out (by omega)
                go_wp2
                all_goals (first | (go_end0; exact ⟨rfl, HFIN.out _ (SYM9.out _ (SYM0.out _ hS1 (by omega)) (by omega))⟩) | exact ⟨rfl, HFIN.out _ (SYM9.out _ (SYM0.out _ hS1 (by omega)) (by omega))⟩)
              · have D1 : ¬ (((a : Int) + b) / 2 + m - i < b) := by have := HE.out; omega
                have E1 : Aside (SWB enc k (w.alloc (.cells (dat g lb sf sb) (ρ.t 42))) blk off d wr) := HS.out
                have hS1 := ROT0.out (by omega)
                go_wp2
                all_goals (first | (go_end0; exact ⟨rfl, HFIN.out _ (SYM9.out _ (SYM0.out _ hS1 (by omega)) (by omega))⟩) | exact ⟨rfl, HFIN.out _ (SYM9.out _ (SYM0.out _ hS1 (by omega)) (by omega))⟩)
          · have B1 : ¬ ((m : Int) < ((a : Int) + b) / 2 + m - i) := by have := HM.out; omega
            have B2 : ¬ ((i : Int) < ((a : Int) + b) / 2) := by have := HM.out; omega
            by_cases C : a < i
            · have C1 : (a : Int) < i := by omega
              by_cases D : mid + m - i < b
              · have D1 : ((a : Int) + b) / 2 + m - i < b := by have := HE.out; omega
                have E1 : Aside (SWB enc k (w.alloc (.cells (dat g lb sf sb) (ρ.t 42))) blk off d wr) := HS.out
                have hS1 := ROT0.out (by omega)
                go_wp2
                all_goals (first | (go_end0; exact ⟨rfl, HFIN.out _ (SYM9.out _ (SYM0.out _ hS1 (by omega)) (by omega))⟩) | exact ⟨rfl, HFIN.out _ (SYM9.out _ (SYM0.out _ hS1 (by omega)) (by omega))⟩)
              · have D1 : ¬ (((a : Int) + b) / 2 + m - i < b) := by have := HE.out; omega
                have E1 : Aside (SWB enc k (w.alloc (.cells (dat g lb sf sb) (ρ.t 42))) blk off d wr) := HS.out
                have hS1 := ROT0.out (by omega)
                go_wp2
                all_goals (first | (go_end0; exact ⟨rfl, HFIN.out _ (SYM9.out _ (SYM0.out _ hS1 (by omega)) (by omega))⟩) | exact ⟨rfl, HFIN.out _ (SYM9.out _ (SYM0.out _ hS1 (by omega)) (by omega))⟩)
            · have C1 : ¬ ((a : Int) < i) := by omega
              by_cases D : mid + m - i < b
              · have D1 : ((a : Int) + b) / 2 + m - i < b := by have := HE.out; omega
                have E1 : Aside (SWB enc k (w.alloc (.cells (dat g lb sf sb) (ρ.t 42))) blk off d wr) := HS.out
                have hS1 := ROT0.out (by omega)
                go_wp2
                all_goals (first | (go_end0; exact ⟨rfl, HFIN.out _ (SYM9.out _ (SYM0.out _ hS1 (by omega)) (by omega))⟩) | exact ⟨rfl, HFIN.out _ (SYM9.out _ (SYM0.out _ hS1 (by omega)) (by omega))⟩)
              · have D1 : ¬ (((a : Int) + b) / 2 + m - i < b) := by have := HE.out; omega
                have E1 : Aside (SWB enc k (w.alloc (.cells (dat g lb sf sb) (ρ.t 42))) blk off d wr) := HS.out
                have hS1 := ROT0.out (by omega)
                go_wp2
                all_goals (first | (go_end0; exact ⟨rfl, HFIN.out _ (SYM9.out _ (SYM0.out _ hS1 (by omega)) (by omega))⟩) | exact ⟨rfl, HFIN.out _ (SYM9.out _ (SYM0.out _ hS1 (by omega)) (by omega))⟩)
end Go.Proofs
end

section
/- sort.symMerge_func at elements of k cells. -/
set_option linter.unusedSimpArgs false
set_option linter.unusedVariables false
namespace Go.Proofs
open Go.Shelf Go.RowKit Go.Lib Go.Sort Go.Ev
variable {P : Program} {ρ : Ren} {α : Type} [Inhabited α]
theorem Sb.symMerge {n0 : Nat} (L : LaysGt.n30 P ρ) (enc : α → List Value) (k : Nat) (hk : ∀ x, (enc x).length = k) (lt : α → α → Bool) (hlt : Weak lt) (g : Nat) (lb : Array Value) (sf : Nat) (sb : Array Value) (blk off : Nat)
    (eg : ∀ args w, (callFunc g args).run P w = .ok (.enter g args) w) (hsz : n0 < 4611686018427387904) (hswap : SwapSwapsK P sf sb enc k blk off n0) :
    ∀ (n a m b : Nat) (d : Array α) (w : World), b - a ≤ n → d.size = n0 → LessB P g lb enc k lt blk off n0 w → HoldsK enc k w blk off d → blk < w.heap.size → a < m → m < b → b ≤ n0 → Srt lt (seg d a m) → Srt lt (seg d m b) →
    Calls P (ρ.f 30) #[.agg (dat g lb sf sb), .int .i64 a, .int .i64 m, .int .i64 b] w fun e w' => e = .returned (.tuple #[]) ∧ SWB enc k w blk off (mrgA lt d a m b) w' := by
  intro n
  induction n with
  | zero => intro a m b d w h1 h2 h3 h4 h5 h6 h7; omega
  | succ n ih =>
    intro a m b d w h1 h2 hless hH hblk ham hmb hb hs1 hs2
    subst h2
    by_cases e1 : m - a = 1
    · exact Sb.symMerge_one L enc k hk lt hlt g lb sf sb blk off a m b (by omega) d w eg hless hswap hH hblk hmb hb hsz hs2
    · by_cases e2 : b - m = 1
      · exact Sb.symMerge_last L enc k hk lt hlt g lb sf sb blk off a m b (by omega) d w eg hless hswap hH hblk ham e1 hb hsz hs1
      · refine Sb.symMerge_many L enc k hk lt hlt g lb sf sb blk off a m b ham d w eg hless hswap hH hblk hmb e1 e2 hb hsz hs1 hs2 ?_
        intro a' m' b' d' w' g1 g2 g3 g4 g5 g6 g7 g8 g9 g10
        exact ih a' m' b' d' w' (by omega) g5 g6 g7 g8 g2 g3 (by omega) g9 g10
end Go.Proofs
end

section
/- sort.insertionSort_func at elements of k cells. -/
set_option linter.unusedSimpArgs false
set_option linter.unusedVariables false
namespace Go.Proofs
open Go.Shelf Go.RowKit Go.Lib Go.Sort Go.Ev
variable {P : Program} {ρ : Ren} {α : Type} [Inhabited α]
set_option maxHeartbeats 4000000 in
set_option maxRecDepth 100000 in
theorem Sb.insertion (L : LaysGt.n29 P ρ) (enc : α → List Value) (k : Nat) (hk : ∀ x, (enc x).length = k) (lt : α → α → Bool) (g : Nat) (lb : Array Value) (sf : Nat) (sb : Array Value) (blk off a b : Nat) (d : Array α) (w : World)
    (eg : ∀ args w, (callFunc g args).run P w = .ok (.enter g args) w) (hless : LessB P g lb enc k lt blk off d.size w) (hswap : SwapSwapsK P sf sb enc k blk off d.size)
    (hH : HoldsK enc k w blk off d) (hblk : blk < w.heap.size) (hab : a ≤ b) (hb : b ≤ d.size) (hsz : d.size < 4611686018427387904) :
    Calls P (ρ.f 29) #[.agg (dat g lb sf sb), .int .i64 a, .int .i64 b] w fun e w' => e = .returned (.tuple #[]) ∧ SWB enc k w blk off (Sort.insertionSort lt d a b) w' := by
  have mixed := L.mixed; have t0 := L.t0; have a0 := L.a0; have z0 := L.z0; have v0 := L.v0; have t3 := L.t3; have a3 := L.a3; have z3 := L.z3; have v3 := L.v3; have t4 := L.t4; have a4 := L.a4; have z4 := L.z4; have v4 := L.v4; have t26 := L.t26; have a26 := L.a26; have z26 := L.z26; have v26 := L.v26; have t38 := L.t38; have a38 := L.a38; have z38 := L.z38; have v38 := L.v38; have t42 := L.t42; have a42 := L.a42; have z42 := L.z42; have v42 := L.v42
  have u42 := run_underlying L.t42
  have hW1 : SWB enc k w blk off d (w.alloc (.cells (dat g lb sf sb) (ρ.t 42))) := (SWB.start hH).alloc _
  have hH1 : HoldsK enc k (w.alloc (.cells (dat g lb sf sb) (ρ.t 42))) blk off d := hW1.holds hblk hH rfl
  have hblk1 : blk < (w.alloc (.cells (dat g lb sf sb) (ρ.t 42))).heap.size := hW1.lt hblk
  have hL1 : LessB P g lb enc k lt blk off d.size (w.alloc (.cells (dat g lb sf sb) (ρ.t 42))) := hW1.lessReads hless hblk rfl
  have HW1 : Aside _ := hW1
  have HH1 : Aside _ := hH1
  have HL1 : Aside _ := hL1
  have HSWP : Aside _ := hswap
  clear hW1 hH1 hL1 hswap hless hH
  go_enter L.f29, BodyGt.n29_ntmps ρ
  go_wp2
  go_loopw [6] (fun vi wr => ∃ (i : Nat) (dk : Array α), vi = .int .i64 i ∧ a < i ∧ i ≤ b + 1 ∧ dk.size = d.size ∧ SWB enc k (w.alloc (.cells (dat g lb sf sb) (ρ.t 42))) blk off dk wr ∧ insOuter lt a b i dk = insOuter lt a b (a + 1) d) (fun vi _ => b + 1 - (intOf vi).toNat)
  case atStart => exact ⟨a + 1, d, by go_num, by omega, by omega, rfl, SWB.start HH1.out, rfl⟩
  case round =>
    obtain ⟨i, dk, rfl, hai, hib, hsk, hS, hO⟩ := hrel
    have HO : Aside _ := hO
    have HS : Aside _ := hS
    clear hO hS
    by_cases hz : i < b
    · have hz' : (i : Int) < b := by omega
      go_wp2
      go_loopw [7] (fun vj wr2 => ∃ (j : Nat) (dj : Array α), vj = .int .i64 j ∧ a ≤ j ∧ j ≤ i ∧ dj.size = d.size ∧ SWB enc k (w.alloc (.cells (dat g lb sf sb) (ρ.t 42))) blk off dj wr2 ∧ insInner lt a j dj = insInner lt a i dk) (fun vj _ => (intOf vj).toNat)
      case atStart => exact ⟨i, dk, rfl, by omega, Nat.le_refl _, hsk, HS.out, rfl⟩
      case round =>
        obtain ⟨j, dj, rfl, haj, hji, hsj, hS2, hI⟩ := hrel
        have c0 := swb_data hblk hS2 0 (.func (.func g) #[] lb) (by simp)
        have c1 := swb_data hblk hS2 1 (.func (.func sf) #[] sb) (by simp)
        have HI : Aside _ := hI
        have HS2 : Aside _ := hS2
        clear hI hS2
        have out : (j ≤ a ∨ lt dj[j]! dj[j - 1]! = false) → ∀ W, SWB enc k (w.alloc (.cells (dat g lb sf sb) (ρ.t 42))) blk off dj W → ∃ i' dk', Value.int .i64 ((i : Int) + 1) = .int .i64 (i' : Nat) ∧ a < i' ∧ i' ≤ b + 1 ∧ dk'.size = d.size ∧
            SWB enc k (w.alloc (.cells (dat g lb sf sb) (ρ.t 42))) blk off dk' W ∧ insOuter lt a b i' dk' = insOuter lt a b (a + 1) d := fun hs W hW =>
          ⟨i + 1, dj, by go_num, by omega, by omega, hsj, hW, by rw [← HO.out, insOuter_go _ _ _ _ _ hz, ← HI.out, insInner_stop _ _ _ _ hs]⟩
        have OUT : Aside _ := out
        clear out
        by_cases hja : a < j
        · have hja' : (j : Int) > a := by omega
          have hl := SWB.less HS2.out HL1.out hsj j (j - 1) (by omega) (by omega)
          rw [show (((j - 1 : Nat) : Int)) = (j : Int) - 1 by omega] at hl
          cases hlv : lt dj[j]! dj[j - 1]! with
          | true =>
            rw [hlv] at hl
            have next : ∀ w', Below wr.heap.size wr w' → (w'.cell? ⟨w.heap.size, 0, none⟩ = some (.func (.func g) #[] lb) ∧ w'.cell? ⟨w.heap.size, 1, none⟩ = some (.func (.func sf) #[] sb)) ∧ (callFunc sf (#[.int .i64 j, .int .i64 ((j : Int) - 1)] ++ sb)).run P w' = .ok (.value (.tuple #[])) ((w'.setCells blk (off + j * k) (enc dj[j - 1]!)).setCells blk (off + (j - 1) * k) (enc dj[j]!)) ∧ SWB enc k (w.alloc (.cells (dat g lb sf sb) (ρ.t 42))) blk off (swp dj j (j - 1)) ((w'.setCells blk (off + j * k) (enc dj[j - 1]!)).setCells blk (off + (j - 1) * k) (enc dj[j]!)) := fun w' hB => by
              have hS3 := SWB.below HS2.out hB
              have hs := HSWP.out w' dj (hS3.holds hblk1 HH1.out hsj) hsj j (j - 1) (by omega) (by omega)
              rw [show (((j - 1 : Nat) : Int)) = (j : Int) - 1 by omega] at hs
              exact ⟨⟨swb_data hblk hS3 0 (.func (.func g) #[] lb) (by simp), swb_data hblk hS3 1 (.func (.func sf) #[] sb) (by simp)⟩, hs, SWB.swap hS3 hk hblk1 j (j - 1) (by omega) (by omega)⟩
            have NEXT : Aside _ := next
            clear next
            go_wp2_with (go_at_fn g; refine hl.mono ?_; rintro e w' ⟨rfl, hB⟩; have d0 := (NEXT.out w' hB).1.1; have d1 := (NEXT.out w' hB).1.2; have hs := (NEXT.out w' hB).2.1; have HS3 : Aside _ := (NEXT.out w' hB).2.2; clear hB)
            go_roundw
            case rel => exact ⟨j - 1, swp dj j (j - 1), by go_num, by omega, by omega, by rw [size_swp]; exact hsj, HS3.out, by rw [← HI.out, insInner_go lt a j dj hja hlv]⟩
            case measure => simp [intOf]; omega
          | false =>
            rw [hlv] at hl
            go_wp2_with (go_at_fn g; refine hl.mono ?_; rintro e w' ⟨rfl, hB⟩)
            go_roundw
            case rel => exact OUT.out (Or.inr hlv) _ (SWB.below HS2.out hB)
            case measure => simp [intOf]; omega
        · have hja' : ¬ ((j : Int) > a) := by omega
          go_wp2
          go_roundw
          case rel => exact OUT.out (Or.inl (by omega)) _ HS2.out
          case measure => simp [intOf]; omega
    · have hz' : ¬ ((i : Int) < b) := by omega
      go_wp2
      go_end0
      refine ⟨rfl, ?_⟩
      unfold Sort.insertionSort
      rw [← HO.out, insOuter_stop _ _ _ _ _ hz]
      exact swb_down hblk HW1.out HS.out hsk
end Go.Proofs
end

section
/- stable_func's plain law: blocks sorted by insertion, merged two by two. -/
set_option linter.unusedSimpArgs false
set_option linter.unusedVariables false
set_option linter.unusedSectionVars false
namespace Go.Ev
open Go.Shelf Go.RowKit Go.Lib Go.Sort Go.Proofs
variable {α : Type} {lt : α → α → Bool}
inductive Bl (lt : α → α → Bool) (bs : Nat) : List α → List α → Prop
  | last (l : List α) (h : l.length ≤ bs) : Bl lt bs l (stab lt l)
  | more (X Y0 Y : List α) (h : X.length = bs) (r : Bl lt bs Y0 Y) : Bl lt bs (X ++ Y0) (stab lt X ++ Y)
theorem Bl.len {bs : Nat} {l r : List α} (h : Bl lt bs l r) : r.length = l.length := by
  induction h with
  | last l h => exact stab_length l
  | more X Y0 Y h r ih => simp [stab_length, ih]
theorem Bl.nil {bs : Nat} {r : List α} (h : Bl lt bs [] r) : r = [] := List.eq_nil_of_length_eq_zero (by rw [h.len]; rfl)
theorem stab_nil : stab lt ([] : List α) = [] := List.eq_nil_of_length_eq_zero (by rw [stab_length]; rfl)
theorem Bl.small {bs : Nat} {l r : List α} (h : Bl lt bs l r) (hl : l.length ≤ bs) : r = stab lt l := by
  cases h with
  | last _ _ => rfl
  | more X Y0 Y hx hr =>
    have : Y0 = [] := List.eq_nil_of_length_eq_zero (by simp at hl; omega)
    subst this
    rw [hr.nil]; simp
theorem Bl.split {bs : Nat} {l r : List α} (h : Bl lt bs l r) (hl : bs ≤ l.length) : ∃ X Y0 Y, X.length = bs ∧ l = X ++ Y0 ∧ r = stab lt X ++ Y ∧ Bl lt bs Y0 Y := by
  cases h with
  | last l h => exact ⟨l, [], [], by omega, by simp, by simp, by have := Bl.last (lt := lt) (bs := bs) [] (by simp); rwa [stab_nil] at this⟩
  | more X Y0 Y hx hr => exact ⟨X, Y0, Y, hx, rfl, rfl, hr⟩
/-- one step of the merging: two blocks become one -/
theorem Bl.two (hlt : Weak lt) {bs : Nat} {l r : List α} (h : Bl lt bs l r) (hl : 2 * bs ≤ l.length) :
    ∃ X X2 Y0 Y, X.length = bs ∧ X2.length = bs ∧ l = (X ++ X2) ++ Y0 ∧ r = stab lt X ++ (stab lt X2 ++ Y) ∧ mrg lt (stab lt X) (stab lt X2) = stab lt (X ++ X2) ∧ Bl lt bs Y0 Y := by
  obtain ⟨X, Y0, Y, h1, rfl, rfl, h2⟩ := h.split (by omega)
  obtain ⟨X2, Z0, Z, h3, rfl, rfl, h4⟩ := h2.split (by simp at hl; omega)
  exact ⟨X, X2, Z0, Z, h1, h3, by simp, rfl, (stab_append hlt X X2).symm, h4⟩
/-- the end of the merging: more than a block and less than two -/
theorem Bl.tail (hlt : Weak lt) {bs : Nat} {l r : List α} (h : Bl lt bs l r) (hl : bs < l.length) (h2 : l.length < 2 * bs) :
    ∃ X Y0, X.length = bs ∧ 0 < Y0.length ∧ l = X ++ Y0 ∧ r = stab lt X ++ stab lt Y0 ∧ mrg lt (stab lt X) (stab lt Y0) = stab lt l := by
  obtain ⟨X, Y0, Y, h1, rfl, rfl, h3⟩ := h.split (by omega)
  rw [h3.small (by simp at h2; omega)]
  exact ⟨X, Y0, h1, by simp at hl; omega, rfl, rfl, (stab_append hlt X Y0).symm⟩
theorem seg_of {d : Array α} {P X Q : List α} (h : d.toList = P ++ (X ++ Q)) {a b : Nat} (ha : a = P.length) (hb : b = P.length + X.length) : seg d a b = X := by
  subst ha; subst hb; simp [seg, h, List.take_append, List.drop_append]
theorem mrgA_of [Inhabited α] {d : Array α} {P X Y Q : List α} (h : d.toList = P ++ (X ++ (Y ++ Q))) {a m b : Nat} (ha : a = P.length) (hm : m = P.length + X.length) (hb : b = P.length + X.length + Y.length) : (mrgA lt d a m b).toList = P ++ (mrg lt X Y ++ Q) := mrgA_list lt h ha hm hb
variable [Inhabited α]
theorem insInner_list (h : Weak lt) {P : List α} (x : α) (a : Nat) (ha : a = P.length) : ∀ (n : Nat) (A R : List α) (d : Array α) (j : Nat), A.length = n → d.toList = P ++ (A ++ x :: R) → j = P.length + A.length → Srt lt A →
    (Sort.insInner lt a j d).toList = P ++ (mrg lt A [x] ++ R) := by
  intro n
  induction n with
  | zero =>
    intro A R d j hA hd hj _
    have := List.eq_nil_of_length_eq_zero hA; subst this
    rw [insInner_stop lt a j d (.inl (by simp at hj; omega)), hd, nil_mrg]; simp
  | succ n ih =>
    intro A R d j hA hd hj hs
    obtain ⟨A', y, rfl⟩ : ∃ A' y, A = A' ++ [y] := ⟨A.dropLast, A.getLast (by intro e; subst e; simp at hA), (List.dropLast_concat_getLast _).symm⟩
    have gx : d[j]! = x := by
      have : d.toList = (P ++ (A' ++ [y])) ++ x :: R := by rw [hd]; simp
      have := arr_get this
      rwa [show (P ++ (A' ++ [y])).length = j by rw [hj]; simp] at this
    have gy : d[j - 1]! = y := by
      have : d.toList = (P ++ A') ++ y :: (x :: R) := by rw [hd]; simp
      have := arr_get this
      rwa [show (P ++ A').length = j - 1 by rw [hj]; simp; try omega] at this
    have hs' : Srt lt A' ∧ ∀ b ∈ A', lt y b = false := by
      unfold Srt at hs ⊢
      rw [List.pairwise_append] at hs
      exact ⟨hs.1, fun b hb => hs.2.2 b hb y (by simp)⟩
    cases hv : lt x y with
    | true =>
      rw [insInner_go lt a j d (by rw [hj, ha]; simp) (by rw [gx, gy]; exact hv)]
      have e := swp_list' (d := d) (P := P ++ A') (M := []) (Q := R) (x := y) (y := x) (by rw [hd]; simp) (i := j - 1) (j := j) (by rw [hj]; simp; try omega) (by rw [hj]; simp; try omega)
      rw [ih A' (y :: R) (swp d j (j - 1)) (j - 1) (by simp at hA; omega) (by rw [e]; simp) (by rw [hj]; simp; try omega) hs'.1]
      have := mrg_split h A' [x] [y] [] (by simp) (by simp; exact hv)
      simp only [List.append_nil] at this
      rw [this, mrg_nil]; simp
    | false =>
      rw [insInner_stop lt a j d (.inr (by rw [gx, gy]; exact hv)), hd]
      have := mrg_one h x (A' ++ [y]) [] (fun b hb => by
        rcases List.mem_append.1 hb with hb | hb
        · cases hc : lt x b with
          | false => rfl
          | true => have := h.left hc (hs'.2 b hb); rw [this] at hv; cases hv
        · simp at hb; subst hb; exact hv) (by simp)
      simp only [List.append_nil] at this
      rw [this]; simp
theorem insOuter_list (h : Weak lt) {P Q : List α} (a b : Nat) (ha : a = P.length) : ∀ (X2 X1 : List α) (d : Array α) (i : Nat), d.toList = P ++ (stab lt X1 ++ (X2 ++ Q)) → i = P.length + X1.length → b = P.length + X1.length + X2.length →
    (Sort.insOuter lt a b i d).toList = P ++ (stab lt (X1 ++ X2) ++ Q) := by
  intro X2
  induction X2 with
  | nil => intro X1 d i hd hi hb; rw [insOuter_stop lt a b i d (by simp at hb; omega), hd]; simp
  | cons x X2 ih =>
    intro X1 d i hd hi hb
    rw [insOuter_go lt a b i d (by simp at hb; omega)]
    have e := insInner_list h x a ha (stab lt X1).length (stab lt X1) (X2 ++ Q) d i rfl (by rw [hd]; simp) (by rw [hi, stab_length]) (stab_srt h X1)
    have e2 : mrg lt (stab lt X1) [x] = stab lt (X1 ++ [x]) := by rw [stab_append h, stab_one]
    rw [e2] at e
    rw [ih (X1 ++ [x]) _ (i + 1) e (by rw [hi]; simp; omega) (by rw [hb]; simp; omega)]
    simp
theorem ins_list (h : Weak lt) {P X Q : List α} {d : Array α} {a b : Nat} (hd : d.toList = P ++ (X ++ Q)) (ha : a = P.length) (hb : b = P.length + X.length) : (Sort.insertionSort lt d a b).toList = P ++ (stab lt X ++ Q) := by
  unfold Sort.insertionSort
  cases X with
  | nil => rw [insOuter_stop lt a b (a + 1) d (by simp at hb; omega), hd, stab_nil]
  | cons x X =>
    have := insOuter_list (lt := lt) (Q := Q) h a b ha X [x] d (a + 1) (by rw [hd, stab_one]; simp) (by rw [ha]; simp) (by rw [hb]; simp; omega)
    rw [this]; simp
def Re1 (lt : α → α → Bool) (bs : Nat) (l0 : List α) (a : Nat) (d : Array α) : Prop :=
  ∃ P R0, d.toList = P ++ R0 ∧ P.length = a ∧ ∀ R, Bl lt bs R0 R → Bl lt bs l0 (P ++ R)
theorem re1_start (bs : Nat) (d : Array α) : Re1 lt bs d.toList 0 d := ⟨[], d.toList, rfl, rfl, fun R h => h⟩
theorem ins_size (h : Weak lt) {d : Array α} {a b : Nat} (h1 : a ≤ b) (h2 : b ≤ d.size) : (Sort.insertionSort lt d a b).size = d.size := by
  have e : d.toList = d.toList.take a ++ ((d.toList.take b).drop a ++ d.toList.drop b) := by
    have e1 : (d.toList.take b).take a = d.toList.take a := by rw [List.take_take]; congr 1; omega
    rw [← List.append_assoc, ← e1, List.take_append_drop, List.take_append_drop]
  have l1 : (d.toList.take a).length = a := by simp; try omega
  have l2 : ((d.toList.take b).drop a).length = b - a := by simp; try omega
  have := ins_list (a := a) (b := b) h e l1.symm (by rw [l1, l2]; omega)
  rw [← Array.length_toList, this, ← Array.length_toList]
  conv => rhs; rw [e]
  simp only [List.length_append, stab_length]
theorem re1_step (hlt : Weak lt) {bs : Nat} {l0 : List α} {a : Nat} {d : Array α} (h : Re1 lt bs l0 a d) (hb : a + bs ≤ d.size) : Re1 lt bs l0 (a + bs) (Sort.insertionSort lt d a (a + bs)) := by
  obtain ⟨P, R0, h1, h2, h3⟩ := h
  have hl : R0.length = d.size - a := by rw [← Array.length_toList, h1]; simp; omega
  have e : R0 = R0.take bs ++ R0.drop bs := (List.take_append_drop _ _).symm
  have hX : (R0.take bs).length = bs := by simp; omega
  refine ⟨P ++ stab lt (R0.take bs), R0.drop bs, ?_, by simp [stab_length]; omega, fun R hR => ?_⟩
  · rw [ins_list hlt (P := P) (X := R0.take bs) (Q := R0.drop bs) (by rw [← e]; exact h1) h2.symm (by rw [hX]; omega)]; simp
  · have := h3 (stab lt (R0.take bs) ++ R) (by (conv => arg 3; rw [e]); exact Bl.more _ _ _ hX hR)
    simpa using this
theorem re1_end (hlt : Weak lt) {bs : Nat} {l0 : List α} {a : Nat} {d : Array α} (h : Re1 lt bs l0 a d) (hb : ¬ a + bs ≤ d.size) : Bl lt bs l0 (Sort.insertionSort lt d a d.size).toList := by
  obtain ⟨P, R0, h1, h2, h3⟩ := h
  have hl : d.size = P.length + R0.length := by rw [← Array.length_toList, h1]; simp
  rw [ins_list hlt (P := P) (X := R0) (Q := []) (by simpa using h1) h2.symm hl]
  have := h3 _ (Bl.last R0 (by omega))
  simpa using this
def Re2 (lt : α → α → Bool) (bs : Nat) (l0 : List α) (a : Nat) (d : Array α) : Prop :=
  ∃ P L0 R, d.toList = P ++ R ∧ P.length = a ∧ Bl lt bs L0 R ∧ ∀ R', Bl lt (2 * bs) L0 R' → Bl lt (2 * bs) l0 (P ++ R')
theorem re2_start {bs : Nat} {l0 : List α} {d : Array α} (h : Bl lt bs l0 d.toList) : Re2 lt bs l0 0 d := ⟨[], l0, d.toList, rfl, rfl, h, fun R h => h⟩
theorem re2_step (hlt : Weak lt) {bs : Nat} {l0 : List α} {a : Nat} {d : Array α} (h : Re2 lt bs l0 a d) (hb : a + 2 * bs ≤ d.size) :
    Srt lt (seg d a (a + bs)) ∧ Srt lt (seg d (a + bs) (a + 2 * bs)) ∧ Re2 lt bs l0 (a + 2 * bs) (mrgA lt d a (a + bs) (a + 2 * bs)) := by
  obtain ⟨P, L0, R, h1, h2, h3, h4⟩ := h
  have hl : d.size = P.length + R.length := by rw [← Array.length_toList, h1]; simp
  obtain ⟨X, X2, Y0, Y, e1, e2, rfl, rfl, e3, e4⟩ := h3.two hlt (by rw [← h3.len]; omega)
  have l1 : (stab lt X).length = bs := by rw [stab_length, e1]
  have l2 : (stab lt X2).length = bs := by rw [stab_length, e2]
  refine ⟨?_, ?_, P ++ stab lt (X ++ X2), Y0, Y, ?_, ?_, e4, fun R' hR => ?_⟩
  · rw [seg_of (X := stab lt X) (Q := stab lt X2 ++ Y) h1 h2.symm (by rw [l1, h2])]; exact stab_srt hlt X
  · rw [seg_of (P := P ++ stab lt X) (X := stab lt X2) (Q := Y) (by rw [h1]; simp) (by simp [l1, h2]) (by simp [l1, l2, h2]; omega)]; exact stab_srt hlt X2
  · rw [mrgA_of h1 h2.symm (by rw [l1, h2]) (by rw [l1, l2, h2]; omega), e3]; simp
  · simp [stab_length, e1, e2, h2]; omega
  · have := h4 (stab lt (X ++ X2) ++ R') (Bl.more _ _ _ (by simp [e1, e2]; omega) hR)
    simpa using this
theorem re2_end (hlt : Weak lt) {bs : Nat} {l0 : List α} {a : Nat} {d : Array α} (h : Re2 lt bs l0 a d) (hb : ¬ a + 2 * bs ≤ d.size) (hm : a + bs < d.size) :
    Srt lt (seg d a (a + bs)) ∧ Srt lt (seg d (a + bs) d.size) ∧ Bl lt (2 * bs) l0 (mrgA lt d a (a + bs) d.size).toList := by
  obtain ⟨P, L0, R, h1, h2, h3, h4⟩ := h
  have hl : d.size = P.length + R.length := by rw [← Array.length_toList, h1]; simp
  have h5 := h3.len
  obtain ⟨X, Y0, e1, e2, rfl, rfl, e3⟩ := h3.tail hlt (by omega) (by omega)
  have l1 : (stab lt X).length = bs := by rw [stab_length, e1]
  have l2 : (stab lt Y0).length = d.size - a - bs := by simp [l1] at hl; omega
  refine ⟨?_, ?_, ?_⟩
  · rw [seg_of (X := stab lt X) (Q := stab lt Y0) h1 h2.symm (by rw [l1, h2])]; exact stab_srt hlt X
  · rw [seg_of (P := P ++ stab lt X) (X := stab lt Y0) (Q := []) (by rw [h1]; simp) (by simp [l1, h2]) (by simp [l1, h2, l2]; omega)]; exact stab_srt hlt Y0
  · rw [mrgA_of (P := P) (X := stab lt X) (Y := stab lt Y0) (Q := []) (by rw [h1]; simp) h2.symm (by rw [l1, h2]) (by rw [l1, l2, h2]; omega), e3]
    have := h4 _ (Bl.last (X ++ Y0) (by omega))
    simpa using this
theorem re2_done {bs : Nat} {l0 : List α} {a : Nat} {d : Array α} (h : Re2 lt bs l0 a d) (hm : ¬ a + bs < d.size) : Bl lt (2 * bs) l0 d.toList := by
  obtain ⟨P, L0, R, h1, h2, h3, h4⟩ := h
  have hl : d.size = P.length + R.length := by rw [← Array.length_toList, h1]; simp
  have h5 := h3.len
  rw [h3.small (by omega)] at h1
  rw [h1]
  exact h4 _ (Bl.last L0 (by omega))
end Go.Ev
end

section
set_option linter.unusedSimpArgs false
set_option linter.unusedVariables false
namespace Go.Proofs
open Go.Shelf Go.RowKit Go.Lib Go.Sort Go.Ev
variable {P : Program} {ρ : Ren} {α : Type} [Inhabited α]
set_option maxHeartbeats 40000000 in
set_option maxRecDepth 100000 in
theorem Sb.stable (L : LaysGt.n15 P ρ) (enc : α → List Value) (k : Nat) (hk : ∀ x, (enc x).length = k) (lt : α → α → Bool) (hlt : Weak lt) (g : Nat) (lb : Array Value) (sf : Nat) (sb : Array Value) (blk off : Nat) (d : Array α) (w : World)
    (eg : ∀ args w, (callFunc g args).run P w = .ok (.enter g args) w) (hless : LessB P g lb enc k lt blk off d.size w) (hswap : SwapSwapsK P sf sb enc k blk off d.size)
    (hH : HoldsK enc k w blk off d) (hblk : blk < w.heap.size) (hsz : d.size < 1152921504606846976) :
    Calls P (ρ.f 15) #[.agg (dat g lb sf sb), .int .i64 d.size] w fun e w' => e = .returned (.tuple #[]) ∧ SWB enc k w blk off (stab lt d.toList).toArray w' := by
  have mixed := L.mixed; have t0 := L.t0; have a0 := L.a0; have z0 := L.z0; have v0 := L.v0; have t3 := L.t3; have a3 := L.a3; have z3 := L.z3; have v3 := L.v3; have t4 := L.t4; have a4 := L.a4; have z4 := L.z4; have v4 := L.v4; have t26 := L.t26; have a26 := L.a26; have z26 := L.z26; have v26 := L.v26; have t38 := L.t38; have a38 := L.a38; have z38 := L.z38; have v38 := L.v38; have t42 := L.t42; have a42 := L.a42; have z42 := L.z42; have v42 := L.v42; have t47 := L.t47; have a47 := L.a47; have z47 := L.z47; have v47 := L.v47
  have u42 := run_underlying L.t42
  have e29 : ∀ args w, (callFunc (ρ.f 29) args).run P w = .ok (.enter (ρ.f 29) args) w := enters_of L.f29 (by kernel_rfl) rfl
  have e30 : ∀ args w, (callFunc (ρ.f 30) args).run P w = .ok (.enter (ρ.f 30) args) w := enters_of L.f30 (by kernel_rfl) rfl
  have hW1 : SWB enc k w blk off d (w.alloc (.cells (dat g lb sf sb) (ρ.t 42))) := (SWB.start hH).alloc _
  have hH1 : HoldsK enc k (w.alloc (.cells (dat g lb sf sb) (ρ.t 42))) blk off d := hW1.holds hblk hH rfl
  have hblk1 : blk < (w.alloc (.cells (dat g lb sf sb) (ρ.t 42))).heap.size := hW1.lt hblk
  have hL1 : LessB P g lb enc k lt blk off d.size (w.alloc (.cells (dat g lb sf sb) (ρ.t 42))) := hW1.lessReads hless hblk rfl
  have LI : LaysGt.n29 P ρ := { L with }
  have LM : LaysGt.n30 P ρ := { L with }
  have ins : ∀ (a b : Nat) (dk : Array α) (W : World), SWB enc k (w.alloc (.cells (dat g lb sf sb) (ρ.t 42))) blk off dk W → dk.size = d.size → a ≤ b → b ≤ d.size →
      Calls P (ρ.f 29) #[.agg (dat g lb sf sb), .int .i64 a, .int .i64 b] W fun e w' => e = .returned (.tuple #[]) ∧ SWB enc k (w.alloc (.cells (dat g lb sf sb) (ρ.t 42))) blk off (Sort.insertionSort lt dk a b) w' := fun a b dk W hS hs h1 h2 => by
    have := Sb.insertion LI enc k hk lt g lb sf sb blk off a b dk W eg (hs ▸ hS.lessReads hL1 hblk1 hs) (hs ▸ hswap) (hS.holds hblk1 hH1 hs) (hS.lt hblk1) h1 (by omega) (by omega)
    refine this.mono ?_
    rintro e w' ⟨rfl, hS2⟩
    exact ⟨rfl, swb_down hblk1 hS hS2 (ins_size hlt h1 (by omega))⟩
  have sym : ∀ (a m b : Nat) (dk : Array α) (W : World), SWB enc k (w.alloc (.cells (dat g lb sf sb) (ρ.t 42))) blk off dk W → dk.size = d.size → a < m → m < b → b ≤ d.size → Srt lt (seg dk a m) → Srt lt (seg dk m b) →
      Calls P (ρ.f 30) #[.agg (dat g lb sf sb), .int .i64 a, .int .i64 m, .int .i64 b] W fun e w' => e = .returned (.tuple #[]) ∧ SWB enc k (w.alloc (.cells (dat g lb sf sb) (ρ.t 42))) blk off (mrgA lt dk a m b) w' := fun a m b dk W hS hs h1 h2 h3 h4 h5 => by
    have := Sb.symMerge LM enc k hk lt hlt g lb sf sb blk off eg (show d.size < 4611686018427387904 by omega) hswap (b - a) a m b dk W (Nat.le_refl _) hs (hS.lessReads hL1 hblk1 hs) (hS.holds hblk1 hH1 hs) (hS.lt hblk1) h1 h2 h3 h4 h5
    refine this.mono ?_
    rintro e w' ⟨rfl, hS2⟩
    exact ⟨rfl, swb_down hblk1 hS hS2 (mrgA_size lt (by omega) (by omega) (by omega))⟩
  have data : ∀ (dk : Array α) (W : World), SWB enc k (w.alloc (.cells (dat g lb sf sb) (ρ.t 42))) blk off dk W → W.cell? ⟨w.heap.size, 0, none⟩ = some (.func (.func g) #[] lb) ∧ W.cell? ⟨w.heap.size, 1, none⟩ = some (.func (.func sf) #[] sb) := fun dk W hS =>
    ⟨swb_data hblk hS 0 (.func (.func g) #[] lb) (by simp), swb_data hblk hS 1 (.func (.func sf) #[] sb) (by simp)⟩
  have INS : Aside _ := ins
  have SYM : Aside _ := sym
  have DATA : Aside _ := data
  have HH1 : Aside _ := hH1
  have HW1 : Aside _ := hW1
  clear ins sym data hH1 hW1 hless hswap hH hL1
  go_enter L.f15, BodyGt.n15_ntmps ρ
  go_wp2
  go_loopw [5, 6] (fun va vb wr => ∃ (a : Nat) (dk : Array α), va = .int .i64 a ∧ vb = .int .i64 ((a + 20 : Nat) : Int) ∧ a ≤ d.size ∧ dk.size = d.size ∧ SWB enc k (w.alloc (.cells (dat g lb sf sb) (ρ.t 42))) blk off dk wr ∧ Re1 lt 20 d.toList a dk) (fun va vb _ => d.size - (intOf va).toNat)
  case atStart => exact ⟨0, d, rfl, by go_num, by omega, rfl, SWB.start HH1.out, re1_start 20 d⟩
  case round =>
    obtain ⟨a, dk, rfl, rfl, ha, hsk, hS, hR⟩ := hrel
    have ⟨c0, c1⟩ := DATA.out dk wr hS
    have HS : Aside _ := hS
    have HR : Aside _ := hR
    clear hS hR
    by_cases hz : a + 20 ≤ d.size
    · have hz' : ((a + 20 : Nat) : Int) ≤ d.size := by omega
      have hc := INS.out a (a + 20) dk wr HS.out hsk (by omega) hz
      go_wp2_with (go_at_fn (ρ.f 29); refine hc.mono ?_; rintro e w1 ⟨rfl, hS1⟩)
      go_roundw
      case rel => exact ⟨a + 20, _, rfl, by go_num, by omega, by rw [ins_size hlt (by omega) (by omega)]; exact hsk, hS1, re1_step hlt HR.out (by omega)⟩
      case measure => simp [intOf]; omega
    · have hz' : ¬ (((a + 20 : Nat) : Int) ≤ d.size) := by omega
      have hc := INS.out a d.size dk wr HS.out hsk (by omega) (Nat.le_refl _)
      have hE := re1_end hlt HR.out (by omega)
      rw [hsk] at hE
      have HE : Aside _ := hE
      clear hE
      go_wp2_with (go_at_fn (ρ.f 29); refine hc.mono ?_; rintro e w1 ⟨rfl, hS1⟩)
      clear c0 c1 hc hz hz' HS HR
      have HS1 : Aside _ := hS1
      clear hS1
      go_loopw [4] (fun vs wr => ∃ (bs : Nat) (dk : Array α), vs = .int .i64 bs ∧ 0 < bs ∧ bs ≤ 2 * d.size + 20 ∧ dk.size = d.size ∧ SWB enc k (w.alloc (.cells (dat g lb sf sb) (ρ.t 42))) blk off dk wr ∧ Bl lt bs d.toList dk.toList) (fun vs _ => d.size - (intOf vs).toNat)
      case atStart => exact ⟨20, _, rfl, by omega, by omega, by rw [ins_size hlt (by omega) (by omega)]; exact hsk, HS1.out, HE.out⟩
      case round =>
        obtain ⟨bs, dk2, rfl, hb0, hb1, hsk2, hS2, hB⟩ := hrel
        clear HS1 HE hsk
        have HS2 : Aside _ := hS2
        have HB : Aside _ := hB
        clear hS2 hB
        by_cases hz : bs < d.size
        · have hz' : (bs : Int) < d.size := by omega
          go_wp2
          go_loopw [5, 6] (fun va vb wr => ∃ (a : Nat) (dk : Array α), va = .int .i64 a ∧ vb = .int .i64 ((a + 2 * bs : Nat) : Int) ∧ a ≤ d.size ∧ dk.size = d.size ∧ SWB enc k (w.alloc (.cells (dat g lb sf sb) (ρ.t 42))) blk off dk wr ∧ Re2 lt bs d.toList a dk) (fun va vb _ => d.size - (intOf va).toNat)
          case atStart => exact ⟨0, dk2, rfl, by go_num, by omega, hsk2, HS2.out, re2_start HB.out⟩
          case round =>
            obtain ⟨a2, dk3, rfl, rfl, ha2, hsk3, hS3, hR3⟩ := hrel
            have ⟨c0, c1⟩ := DATA.out dk3 wr hS3
            have HS3 : Aside _ := hS3
            have HR3 : Aside _ := hR3
            clear hS3 hR3
            by_cases hy : a2 + 2 * bs ≤ d.size
            · have hy' : ((a2 + 2 * bs : Nat) : Int) ≤ d.size := by omega
              obtain ⟨r1, r2, r3⟩ := re2_step hlt HR3.out (by omega)
              have hc := SYM.out a2 (a2 + bs) (a2 + 2 * bs) dk3 wr HS3.out hsk3 (by omega) (by omega) (by omega) r1 r2
              have R3 : Aside _ := r3
              clear r1 r2 r3
              rw [show ((a2 + bs : Nat) : Int) = (a2 : Int) + bs by omega] at hc
              go_wp2_with (go_at_fn (ρ.f 30); refine hc.mono ?_; rintro e w1 ⟨rfl, hS4⟩)
              go_roundw
              case rel => exact ⟨a2 + 2 * bs, _, rfl, by go_num, by omega, by rw [mrgA_size lt (by omega) (by omega) (by omega)]; exact hsk3, hS4, R3.out⟩
              case measure => simp [intOf]; omega
            · have hy' : ¬ (((a2 + 2 * bs : Nat) : Int) ≤ d.size) := by omega
              by_cases hx : a2 + bs < d.size
              · have hx' : (a2 : Int) + bs < d.size := by omega
                obtain ⟨r1, r2, r3⟩ := re2_end hlt HR3.out (by omega) (by omega)
                rw [hsk3] at r2 r3
                have hc := SYM.out a2 (a2 + bs) d.size dk3 wr HS3.out hsk3 (by omega) (by omega) (by omega) r1 r2
                have R3 : Aside _ := r3
                clear r1 r2 r3
                rw [show ((a2 + bs : Nat) : Int) = (a2 : Int) + bs by omega] at hc
                go_wp2_with (go_at_fn (ρ.f 30); refine hc.mono ?_; rintro e w1 ⟨rfl, hS4⟩)
                go_roundw
                case rel => exact ⟨2 * bs, _, by go_num, by omega, by omega, by rw [mrgA_size lt (by omega) (by omega) (by omega)]; exact hsk3, hS4, R3.out⟩
                case measure => simp [intOf]; omega
              · have hx' : ¬ ((a2 : Int) + bs < d.size) := by omega
                have r3 := re2_done HR3.out (by omega)
                have R3 : Aside _ := r3
                clear r3
                go_wp2
                go_roundw
                case rel => exact ⟨2 * bs, dk3, by go_num, by omega, by omega, hsk3, HS3.out, R3.out⟩
                case measure => simp [intOf]; omega
        · have hz' : ¬ ((bs : Int) < d.size) := by omega
          have hst := HB.out.small (by simp; omega)
          have HST : Aside _ := hst
          clear hst
          go_wp2
          go_end0
          refine ⟨rfl, ?_⟩
          have e : dk2 = (stab lt d.toList).toArray := arr_eq HST.out
          rw [← e]
          exact swb_down hblk HW1.out HS2.out hsk2
end Go.Proofs
end

section
/- sort.SliceStable at any length, by the shelf's entry. -/
set_option linter.unusedSimpArgs false
set_option linter.unusedVariables false
namespace Go.Ev
open Go.Shelf Go.RowKit Go.Lib Go.Sort Go.Proofs
theorem below_of_grow (w : World) (os : Array Go.Obj) : Below w.heap.size w (grow w os) := ⟨rfl, rfl, rfl, by rw [size_grow]; omega, fun k hk => by
  simp only [grow]
  rw [Array.getElem?_append, if_pos hk]⟩
theorem stableOk_of {P : Program} {ρ : Ren} (L : LaysGt.n8 P ρ) (T U : TypeId) (i ie : TypeInfo) (hu : P.underlying T = some (.slice U)) (hi : P.info? T = some i) (hd : i.desc = .slice U) (hpk : P.packed T = false) (hie : P.info? U = some ie) (ke : Nat) (hke : ∀ w, (Extern.Rtype.kind U).run P w = .ok ke w)
    (hagg : ∀ w, (isAgg U).run P w = .ok true w) (f0 f1 f9 : Nat) (hf0 : P.funcs.findIdx? (·.name == "internal/reflectlite" ++ ".Swapper$" ++ toString (swapperK 0 ie ke)) = some f0) (hf1 : P.funcs.findIdx? (·.name == "internal/reflectlite" ++ ".Swapper$" ++ toString (swapperK 1 ie ke)) = some f1)
    (hf9 : ∀ n, 2 ≤ n → P.funcs.findIdx? (·.name == "internal/reflectlite" ++ ".Swapper$" ++ toString (swapperK n ie ke)) = some f9) (gS : Bool) (hx : ∀ args W, (callFunc f9 args).run P W = ((Extern.ReflectliteSwapper.swap gS args).run P W).andThen fun v w' => .ok (.value v) w') : StableOk P (ρ.f 8) T := by
  refine ⟨⟨U, ie, hu, hie, ?_⟩, ?_⟩
  · intro α _ enc hk h1 lt hlt g lb eg blk off c d h2 hsz w hless hH hblk
    refine Any.sort_SliceStable_of_stable L T U i ie hi hd hpk hie ke hke _ d.size c (by omega) f9 (hf9 _ h2) (.func g) #[] lb w _ ?_
    have hB : sliceBound P U ie ke (some ⟨blk, off, none⟩) d.size c = #[.slice (some ⟨blk, off, none⟩) d.size c, typeHandle P U] := by
      unfold sliceBound; rw [if_neg (swapperK_gt _ _ _ h2)]
    have hS0 : SWB enc ie.size w blk off d (stableWorld P ρ T (some ⟨blk, off, none⟩) d.size c w) := ((SWB.start hH).alloc _).alloc _
    rw [hB]
    have hp := Sb.stable (P := P) (ρ := ρ) { L with } enc ie.size hk lt hlt g lb f9 _ blk off d (stableWorld P ρ T (some ⟨blk, off, none⟩) d.size c w) eg (hS0.lessReads hless hblk rfl)
      (swapSwapsK_of_literal gS f9 hx U ie hie enc ie.size hk rfl hagg h1 blk off d.size c) (hS0.holds hblk hH rfl) (hS0.lt hblk) hsz
    refine hp.mono ?_
    rintro e w' ⟨rfl, hS⟩
    exact ⟨rfl, swb_down hblk hS0 hS (by simp [stab_length])⟩
  · intro p n c hn lf la lb w
    have hf : ∃ f, P.funcs.findIdx? (·.name == "internal/reflectlite" ++ ".Swapper$" ++ toString (swapperK n ie ke)) = some f := by
      match n, hn with
      | 0, _ => exact ⟨f0, hf0⟩
      | 1, _ => exact ⟨f1, hf1⟩
    obtain ⟨f, hf⟩ := hf
    refine (Any.sort_SliceStable_tiny L T U i ie hi hd hpk hie ke hke p n c hn f hf lf la lb w).mono ?_
    rintro e w' ⟨rfl, os, rfl⟩
    exact ⟨rfl, below_of_grow w os⟩
end Go.Ev
end

section
/- Loops over lists, out of their equations. -/
set_option linter.unusedSimpArgs false
set_option linter.unusedVariables false
namespace Go.Ev

theorem wrap_eq {x : Int} (h1 : -9223372036854775808 ≤ x) (h2 : x ≤ 9223372036854775807) : IntKind.i64.wrap x = x := by
  rw [IntKind.wrap_i64]; omega

theorem br_if {ρ : Type} (p : Prop) [Decidable p] (x y : Option ρ) : br (decide p) x y = if p then x else y := by
  by_cases h : p
  · rw [if_pos h, decide_eq_true h]; rfl
  · rw [if_neg h, decide_eq_false h]; rfl
theorem br_b {ρ : Type} (b : Bool) (x y : Option ρ) : br b x y = if b = true then x else y := by cases b <;> rfl
theorem br_pos {ρ : Type} {p : Prop} [Decidable p] (h : p) (x y : Option ρ) : br (decide p) x y = x := by rw [br_if, if_pos h]
theorem br_neg {ρ : Type} {p : Prop} [Decidable p] (h : ¬ p) (x y : Option ρ) : br (decide p) x y = y := by rw [br_if, if_neg h]

/-- a list, element by element: on with a new state, or out -/
def foldE {α S R X : Type} (g : Nat → α → S → S ⊕ R) (fin : S → X) (out : R → X) : List α → Nat → S → X
  | [], _, s => fin s
  | x :: r, i, s => match g i x s with
    | .inl s' => foldE g fin out r (i + 1) s'
    | .inr r => out r

/-- A loop that counts its way along a list. -/
theorem list_loop {α S R X : Type} (xs : List α) (z : α) (L : Nat → S → Int → Option X) (g : Nat → α → S → S ⊕ R) (fin : S → X) (out : R → X) (K : Nat) (I : Nat → S → Prop)
    (hstep : ∀ k (i : Nat) s, K ≤ k → i < xs.length → I i s → L (k + 1) s (i : Int) = (match g i (xs.getD i z) s with
      | .inl s' => L k s' ((i + 1 : Nat) : Int)
      | .inr r => some (out r)) ∧ ∀ s', g i (xs.getD i z) s = .inl s' → I (i + 1) s')
    (hend : ∀ k s, K ≤ k → I xs.length s → L (k + 1) s (xs.length : Int) = some (fin s)) :
    ∀ (n i : Nat) (s : S) (k : Nat), n + i = xs.length → K + n + 1 ≤ k → I i s → L k s (i : Int) = some (foldE g fin out (xs.drop i) i s)
  | 0, i, s, k, hn, hk, hI => by
    obtain ⟨k, rfl⟩ : ∃ k', k = k' + 1 := ⟨k - 1, by omega⟩
    have hi : i = xs.length := by omega
    subst hi
    rw [hend k s (by omega) hI, List.drop_length]
    rfl
  | n + 1, i, s, k, hn, hk, hI => by
    obtain ⟨k, rfl⟩ : ∃ k', k = k' + 1 := ⟨k - 1, by omega⟩
    have hi : i < xs.length := by omega
    obtain ⟨h1, h2⟩ := hstep k i s (by omega) hi hI
    have hd : xs.drop i = xs.getD i z :: xs.drop (i + 1) := by
      rw [List.drop_eq_getElem_cons hi]
      simp [List.getD_eq_getElem?_getD, hi]
    rw [h1, hd]
    simp only [foldE]
    cases hg : g i (xs.getD i z) s with
    | inl s' =>
      simp only
      exact list_loop xs z L g fin out K I hstep hend n (i + 1) s' k (by omega) (by omega) (h2 s' hg)
    | inr r => rfl
theorem list_loop0 {α S R X : Type} {xs : List α} (z : α) {L : Nat → S → Int → Option X} (g : Nat → α → S → S ⊕ R) (fin : S → X) (out : R → X) (K : Nat) (I : Nat → S → Prop)
    (hstep : ∀ k (i : Nat) s, K ≤ k → i < xs.length → I i s → L (k + 1) s (i : Int) = (match g i (xs.getD i z) s with
      | .inl s' => L k s' ((i + 1 : Nat) : Int)
      | .inr r => some (out r)) ∧ ∀ s', g i (xs.getD i z) s = .inl s' → I (i + 1) s')
    (hend : ∀ k s, K ≤ k → I xs.length s → L (k + 1) s (xs.length : Int) = some (fin s)) {s : S} {k : Nat} (hk : K + xs.length + 1 ≤ k) (hI : I 0 s) : L k s 0 = some (foldE g fin out xs 0 s) := by
  have := list_loop xs z L g fin out K I hstep hend xs.length 0 s k (by omega) hk hI
  simpa using this
end Go.Ev
end

section
/- What an equation with fuel comes to, fuel enough. -/
set_option linter.unusedSimpArgs false
set_option linter.unusedVariables false
namespace Go.Ev

/-- With fuel enough, f is v. -/
def Lim {X : Type} (f : Nat → Option X) (v : Option X) : Prop := ∃ k0, ∀ k, k0 ≤ k → f k = v
section
variable {X Y Z : Type}
theorem lim_const (v : Option X) : Lim (fun _ => v) v := ⟨0, fun _ _ => rfl⟩
theorem lim_bnd {m : Nat → Option Y} {M : Option Y} {f : Nat → Y → Option X} {F : Y → Option X} (h : Lim m M) (hf : ∀ y, Lim (fun k => f k y) (F y)) : Lim (fun k => bnd (m k) (fun y => f k y)) (bnd M F) := by
  obtain ⟨k1, h1⟩ := h
  cases M with
  | none => exact ⟨k1, fun k hk => by simp only [h1 k hk]; rfl⟩
  | some y =>
    obtain ⟨k2, h2⟩ := hf y
    exact ⟨max k1 k2, fun k hk => by simp only [h1 k (by omega)]; exact h2 k (by omega)⟩
theorem lim_br {b : Bool} {f g : Nat → Option X} {F G : Option X} (hf : Lim f F) (hg : Lim g G) : Lim (fun k => br b (f k) (g k)) (br b F G) := by
  cases b
  · exact hg
  · exact hf
theorem lim_onSum {r : Y ⊕ Z} {f : Nat → Y → Option X} {F : Y → Option X} {g : Nat → Z → Option X} {G : Z → Option X} (hf : ∀ y, Lim (fun k => f k y) (F y)) (hg : ∀ z, Lim (fun k => g k z) (G z)) : Lim (fun k => onSum r (fun y => f k y) (fun z => g k z)) (onSum r F G) := by
  cases r with
  | inl y => exact hf y
  | inr z => exact hg z
theorem lim_succ {f : Nat → Option X} {v : Option X} (h : Lim (fun k => f (k + 1)) v) : Lim f v := by
  obtain ⟨k0, hk⟩ := h
  refine ⟨k0 + 1, fun k h => ?_⟩
  obtain ⟨j, rfl⟩ : ∃ j, k = j + 1 := ⟨k - 1, by omega⟩
  exact hk j (by omega)
theorem lim_eq {f g : Nat → Option X} {v : Option X} (h : Lim g v) (e : ∀ k, f k = g k) : Lim f v := by
  obtain ⟨k0, hk⟩ := h
  exact ⟨k0, fun k hk' => (e k).trans (hk k hk')⟩
theorem lim_some {f : Nat → Option X} {v : X} (h : Lim f (some v)) : ∃ k, f k = some v := by
  obtain ⟨k0, hk⟩ := h
  exact ⟨k0, hk k0 (Nat.le_refl _)⟩

/-- A loop that counts: n rounds still to go. -/
def forN {S : Type} (B : Int → S → (S → Option X) → Option X) (E : S → Option X) : Nat → Nat → S → Option X
  | 0, _, s => E s
  | n + 1, i, s => B (i : Int) s (forN B E n (i + 1))
theorem lim_for {S : Type} {L : Nat → S → Int → Option X} {B : Int → S → (S → Option X) → Option X} {E : S → Option X} (len : Nat) (hlen : len ≤ 4611686018427387904)
    (hB : ∀ (i : Nat) s, i < len → ∀ C : S → Option X, (∀ s, Lim (fun k => L k s (IntKind.i64.wrap ((i : Int) + 1))) (C s)) → Lim (fun k => L (k + 1) s (i : Int)) (B i s C)) (hE : ∀ s, Lim (fun k => L (k + 1) s (len : Int)) (E s)) :
    ∀ (n i : Nat) (s : S), n + i = len → Lim (fun k => L k s (i : Int)) (forN B E n i s)
  | 0, i, s, h => by
    have : i = len := by omega
    subst this
    exact lim_succ (hE s)
  | n + 1, i, s, h => by
    refine lim_succ (hB i s (by omega) _ fun s' => ?_)
    have := lim_for len hlen hB hE n (i + 1) s' (by omega)
    rw [wrap_eq (by omega) (by omega)]
    exact this
theorem lim_for0 {S : Type} {L : Nat → S → Int → Option X} {B : Int → S → (S → Option X) → Option X} {E : S → Option X} (len : Nat) (hlen : len ≤ 4611686018427387904)
    (hB : ∀ (i : Nat) s, i < len → ∀ C : S → Option X, (∀ s, Lim (fun k => L k s (IntKind.i64.wrap ((i : Int) + 1))) (C s)) → Lim (fun k => L (k + 1) s (i : Int)) (B i s C)) (hE : ∀ s, Lim (fun k => L (k + 1) s (len : Int)) (E s)) (s : S) :
    Lim (fun k => L k s 0) (forN B E len 0 s) := lim_for len hlen hB hE len 0 s (by omega)
theorem lim_br' {b : Bool} {f g : Nat → Option X} {F G : Option X} (hf : b = true → Lim f F) (hg : b = false → Lim g G) : Lim (fun k => br b (f k) (g k)) (br b F G) := by
  cases b
  · exact hg rfl
  · exact hf rfl
/-- A loop that counts below a bound: n rounds at the most. -/
def forF {S : Type} (B : Int → S → (S → Option X) → Option X) : Nat → Nat → S → Option X
  | 0, _, _ => none
  | n + 1, i, s => B (i : Int) s (forF B n (i + 1))
theorem lim_forF {S : Type} {L : Nat → S → Int → Option X} {B : Int → S → (S → Option X) → Option X} (bound : Int) (hb : bound ≤ 4611686018427387904)
    (hB : ∀ (i : Nat) s, ∀ C : S → Option X, (∀ s, (i : Int) < bound → Lim (fun k => L k s (IntKind.i64.wrap ((i : Int) + 1))) (C s)) → Lim (fun k => L (k + 1) s (i : Int)) (B i s C)) :
    ∀ (n i : Nat) (s : S), 0 < n → bound - i < n → Lim (fun k => L k s (i : Int)) (forF B n i s)
  | 0, i, s, h, _ => absurd h (by omega)
  | n + 1, i, s, _, h => by
    refine lim_succ (hB i s _ fun s' hi => ?_)
    rw [wrap_eq (by omega) (by omega)]
    exact lim_forF bound hb hB n (i + 1) s' (by omega) (by omega)
theorem lim_forF0 {S : Type} {L : Nat → S → Int → Option X} {B : Int → S → (S → Option X) → Option X} (bound : Int) (hb : bound ≤ 4611686018427387904)
    (hB : ∀ (i : Nat) s, ∀ C : S → Option X, (∀ s, (i : Int) < bound → Lim (fun k => L k s (IntKind.i64.wrap ((i : Int) + 1))) (C s)) → Lim (fun k => L (k + 1) s (i : Int)) (B i s C)) (s : S) :
    Lim (fun k => L k s 0) (forF B (bound.toNat + 1) 0 s) := lim_forF bound hb hB _ 0 s (by omega) (by omega)
/-- What is known of an answer, if there is one. -/
def Holds (m : Option Y) (p : Y → Prop) : Prop := ∀ y, m = some y → p y
theorem holds_br {b : Bool} {x y : Option Y} {p : Y → Prop} (hx : Holds x p) (hy : Holds y p) : Holds (br b x y) p := by
  cases b
  · exact hy
  · exact hx
theorem holds_bnd {m : Option Z} {f : Z → Option Y} {p : Y → Prop} (h : ∀ z, Holds (f z) p) : Holds (bnd m f) p := by
  cases m with
  | none => intro y hy; simp [bnd] at hy
  | some z => exact h z
theorem holds_onSum {W : Type} {r : Z ⊕ W} {f : Z → Option Y} {g : W → Option Y} {p : Y → Prop} (hf : ∀ z, Holds (f z) p) (hg : ∀ z, Holds (g z) p) : Holds (onSum r f g) p := by
  cases r with
  | inl z => exact hf z
  | inr z => exact hg z
theorem holds_none {p : Y → Prop} : Holds none p := fun y h => by cases h
theorem holds_some {p : Y → Prop} {x : Y} (h : p x) : Holds (some x) p := fun y e => by cases e; exact h
theorem holds_forF {S : Type} {B : Int → S → (S → Option X) → Option X} {p : X → Prop} (h : ∀ i s C, (∀ s, Holds (C s) p) → Holds (B i s C) p) : ∀ n i s, Holds (forF B n i s) p
  | 0, _, _ => holds_none
  | n + 1, i, s => h i s _ fun s' => holds_forF h n (i + 1) s'
/-- bind, where something is known of what comes first -/
theorem lim_bndP {m : Nat → Option Y} {M : Option Y} {f : Nat → Y → Option X} {F : Y → Option X} (p : Y → Prop) (h : Lim m M) (hp : Holds M p) (hf : ∀ y, p y → Lim (fun k => f k y) (F y)) : Lim (fun k => bnd (m k) (fun y => f k y)) (bnd M F) := by
  obtain ⟨k1, h1⟩ := h
  cases M with
  | none => exact ⟨k1, fun k hk => by simp only [h1 k hk]; rfl⟩
  | some y =>
    obtain ⟨k2, h2⟩ := hf y (hp y rfl)
    exact ⟨max k1 k2, fun k hk => by simp only [h1 k (by omega)]; exact h2 k (by omega)⟩
theorem lim_onSum' {r : Y ⊕ Z} {f : Nat → Y → Option X} {F : Y → Option X} {g : Nat → Z → Option X} {G : Z → Option X} (hf : ∀ y, r = .inl y → Lim (fun k => f k y) (F y)) (hg : ∀ z, r = .inr z → Lim (fun k => g k z) (G z)) : Lim (fun k => onSum r (fun y => f k y) (fun z => g k z)) (onSum r F G) := by
  cases r with
  | inl y => exact hf y rfl
  | inr z => exact hg z rfl
end
end Go.Ev
end

section
/- What an equation with fuel comes to, fuel enough: one way only. -/
set_option linter.unusedSimpArgs false
set_option linter.unusedVariables false
namespace Go.Ev
/-- Where v is an answer, f gives it, with fuel enough. -/
def Lm {X : Type} (f : Nat → Option X) (v : Option X) : Prop := ∀ r, v = some r → ∃ k0, ∀ k, k0 ≤ k → f k = some r
section
variable {X Y Z : Type}
theorem lm_const (v : Option X) : Lm (fun _ => v) v := fun r h => ⟨0, fun _ _ => h⟩
theorem lm_none (f : Nat → Option X) : Lm f none := fun r h => by cases h
theorem lm_bnd {m : Nat → Option Y} {M : Option Y} {f : Nat → Y → Option X} {F : Y → Option X} (h : Lm m M) (hf : ∀ y, Lm (fun k => f k y) (F y)) : Lm (fun k => bnd (m k) (fun y => f k y)) (bnd M F) := by
  intro r hr
  obtain ⟨y, hy, hr⟩ := bnd_some hr
  obtain ⟨k1, h1⟩ := h y hy
  obtain ⟨k2, h2⟩ := hf y r hr
  exact ⟨max k1 k2, fun k hk => by simp only [h1 k (by omega)]; exact h2 k (by omega)⟩
theorem lm_br {b : Bool} {f g : Nat → Option X} {F G : Option X} (hf : Lm f F) (hg : Lm g G) : Lm (fun k => br b (f k) (g k)) (br b F G) := by
  cases b
  · exact hg
  · exact hf
theorem lm_onSum {r : Y ⊕ Z} {f : Nat → Y → Option X} {F : Y → Option X} {g : Nat → Z → Option X} {G : Z → Option X} (hf : ∀ y, Lm (fun k => f k y) (F y)) (hg : ∀ z, Lm (fun k => g k z) (G z)) : Lm (fun k => onSum r (fun y => f k y) (fun z => g k z)) (onSum r F G) := by
  cases r with
  | inl y => exact hf y
  | inr z => exact hg z
theorem lm_eq {f g : Nat → Option X} {v : Option X} (h : Lm g v) (e : ∀ k, f k = g k) : Lm f v := fun r hr => by
  obtain ⟨k0, hk⟩ := h r hr
  exact ⟨k0, fun k hk' => (e k).trans (hk k hk')⟩
theorem lm_some {f : Nat → Option X} {v : X} (h : Lm f (some v)) : ∃ k, f k = some v := by
  obtain ⟨k0, hk⟩ := h v rfl
  exact ⟨k0, hk k0 (Nat.le_refl _)⟩
/-- A loop, n rounds at the most. -/
def forG {S : Type} (B : S → (S → Option X) → Option X) : Nat → S → Option X
  | 0, _ => none
  | n + 1, s => B s (forG B n)
theorem lm_forG {S : Type} {L : Nat → S → Option X} {B : S → (S → Option X) → Option X} (hB : ∀ s (C : S → Option X), (∀ s, Lm (fun k => L k s) (C s)) → Lm (fun k => L (k + 1) s) (B s C)) : ∀ n s, Lm (fun k => L k s) (forG B n s)
  | 0, s => lm_none _
  | n + 1, s => fun r hr => by
    obtain ⟨k0, hk⟩ := hB s _ (lm_forG hB n) r hr
    refine ⟨k0 + 1, fun k h => ?_⟩
    obtain ⟨j, rfl⟩ : ∃ j, k = j + 1 := ⟨k - 1, by omega⟩
    exact hk j (by omega)
end
end Go.Ev
end

section
/- A sort, fuel enough. -/
set_option linter.unusedVariables false
namespace Go.Ev
def tuples {α : Type} (xs : List α) : Nat → List (List α)
  | 0 => [[]]
  | n + 1 => (tuples xs n).flatMap fun l => xs.map fun x => x :: l
theorem mem_tuples {α : Type} {xs : List α} : ∀ (n : Nat) (ys : List α), ys.length = n → (∀ y ∈ ys, y ∈ xs) → ys ∈ tuples xs n
  | 0, ys, h, _ => by
    have := List.eq_nil_of_length_eq_zero h
    subst this
    simp [tuples]
  | n + 1, [], h, _ => by simp at h
  | n + 1, y :: ys, h, hm => by
    simp only [tuples, List.mem_flatMap, List.mem_map]
    exact ⟨ys, mem_tuples n ys (by simpa using h) (fun z hz => hm z (by simp [hz])), y, hm y (by simp), rfl⟩
theorem max_all {β : Type} {Q : Nat → β → Prop} : ∀ (l : List β), (∀ b ∈ l, ∃ k0, ∀ k, k0 ≤ k → Q k b) → ∃ k0, ∀ k, k0 ≤ k → ∀ b ∈ l, Q k b
  | [], _ => ⟨0, fun _ _ b hb => by simp at hb⟩
  | b :: l, h => by
    obtain ⟨k1, h1⟩ := h b (by simp)
    obtain ⟨k2, h2⟩ := max_all l fun c hc => h c (by simp [hc])
    refine ⟨max k1 k2, fun k hk c hc => ?_⟩
    rcases List.mem_cons.1 hc with rfl | hc
    · exact h1 k (by omega)
    · exact h2 k (by omega) c hc
theorem lm_srt {α : Type} {z : α} {less : Nat → List α → Int → Int → Option Bool} {L : List α → Int → Int → Option Bool} {xs : List α} (h : ∀ ys i j, Lm (fun k => less k ys i j) (L ys i j)) : Lm (fun k => srt z (fun ys i j => less k ys i j) xs) (srt z (fun ys i j => L ys i j) xs) := by
  intro r hr
  by_cases h1 : xs.length ≤ 1
  · rw [srt_small h1] at hr
    exact ⟨0, fun k _ => by simp only [srt_small h1, hr]⟩
  · obtain ⟨lt, hok, rfl⟩ := srt_some hr h1
    have hall : ∃ k0, ∀ k, k0 ≤ k → ∀ b ∈ tuples xs xs.length, ∀ i ∈ List.range xs.length, ∀ j ∈ List.range xs.length, less k b (i : Nat) (j : Nat) = some (lt (b.getD i z) (b.getD j z)) ∨ ¬ (b.length = xs.length ∧ ∀ y ∈ b, y ∈ xs) := by
      refine max_all _ fun b hb => ?_
      by_cases hg : b.length = xs.length ∧ ∀ y ∈ b, y ∈ xs
      · refine (max_all (Q := fun k (i : Nat) => ∀ j ∈ List.range xs.length, less k b (i : Nat) (j : Nat) = some (lt (b.getD i z) (b.getD j z)) ∨ ¬ (b.length = xs.length ∧ ∀ y ∈ b, y ∈ xs)) (List.range xs.length) fun i hi => ?_)
        refine (max_all (Q := fun k (j : Nat) => less k b (i : Nat) (j : Nat) = some (lt (b.getD i z) (b.getD j z)) ∨ ¬ (b.length = xs.length ∧ ∀ y ∈ b, y ∈ xs)) (List.range xs.length) fun j hj => ?_)
        obtain ⟨k0, hk0⟩ := h b i j _ (hok.2 b hg.1 hg.2 i j (List.mem_range.1 hi) (List.mem_range.1 hj))
        exact ⟨k0, fun k hk => .inl (hk0 k hk)⟩
      · exact ⟨0, fun k _ i _ j _ => .inr hg⟩
    obtain ⟨k0, hk0⟩ := hall
    refine ⟨k0, fun k hk => ?_⟩
    refine srt_eq ⟨hok.1, fun ys hy hm i j hi hj => ?_⟩
    rcases hk0 k hk ys (mem_tuples _ ys hy hm) i (List.mem_range.2 hi) j (List.mem_range.2 hj) with h | h
    · exact h
    · exact absurd ⟨hy, hm⟩ h
end Go.Ev
end

section
/- Rounds along a list. -/
set_option linter.unusedSimpArgs false
set_option linter.unusedVariables false
namespace Go.Ev
theorem forG_fold {α S R X T : Type} (xs : List α) (z : α) {B : T → (T → Option X) → Option X} (emb : Int → S → T) (g : Nat → α → S → S ⊕ R) (fin : S → X) (out : R → X) (I : Nat → S → Prop)
    (hstep : ∀ (i : Nat) s C, i < xs.length → I i s → B (emb (i : Int) s) C = (match g i (xs.getD i z) s with
      | .inl s' => C (emb ((i + 1 : Nat) : Int) s')
      | .inr r => some (out r)) ∧ ∀ s', g i (xs.getD i z) s = .inl s' → I (i + 1) s')
    (hend : ∀ s C, I xs.length s → B (emb (xs.length : Int) s) C = some (fin s)) :
    ∀ (n i : Nat) (s : S), i ≤ xs.length → xs.length < n + i → I i s → forG B n (emb (i : Int) s) = some (foldE g fin out (xs.drop i) i s)
  | 0, i, s, h1, h2, _ => absurd h1 (by omega)
  | n + 1, i, s, h1, h2, hI => by
    simp only [forG]
    by_cases hi : i < xs.length
    · obtain ⟨e1, e2⟩ := hstep i s (forG B n) hi hI
      have hd : xs.drop i = xs.getD i z :: xs.drop (i + 1) := by
        rw [List.drop_eq_getElem_cons hi]
        simp [List.getD_eq_getElem?_getD, hi]
      rw [e1, hd]
      simp only [foldE]
      cases hg : g i (xs.getD i z) s with
      | inl s' => exact forG_fold xs z emb g fin out I hstep hend n (i + 1) s' (by omega) (by omega) (e2 s' hg)
      | inr r => rfl
    · have : i = xs.length := by omega
      subst this
      rw [hend s _ hI, List.drop_length]
      rfl
theorem forG_fold0 {α S R X T : Type} {xs : List α} (z : α) {B : T → (T → Option X) → Option X} (emb : Int → S → T) (g : Nat → α → S → S ⊕ R) (fin : S → X) (out : R → X) (I : Nat → S → Prop)
    (hstep : ∀ (i : Nat) s C, i < xs.length → I i s → B (emb (i : Int) s) C = (match g i (xs.getD i z) s with
      | .inl s' => C (emb ((i + 1 : Nat) : Int) s')
      | .inr r => some (out r)) ∧ ∀ s', g i (xs.getD i z) s = .inl s' → I (i + 1) s')
    (hend : ∀ s C, I xs.length s → B (emb (xs.length : Int) s) C = some (fin s)) {n : Nat} {s : S} (hn : xs.length < n) (hI : I 0 s) : forG B n (emb 0 s) = some (foldE g fin out xs 0 s) := by
  have := forG_fold xs z emb g fin out I hstep hend n 0 s (Nat.zero_le _) (by omega) hI
  simpa using this
theorem foldE_onSum {α S R A C Y : Type} (g : Nat → α → S → S ⊕ R) (fin : S → A) (out : R → C) (f : A → Option Y) (h : C → Option Y) : ∀ (xs : List α) (i : Nat) (s : S),
    onSum (foldE g (fun s => (.inl (fin s) : A ⊕ C)) (fun r => .inr (out r)) xs i s) f h = foldE g (fun s => f (fin s)) (fun r => h (out r)) xs i s
  | [], _, _ => rfl
  | x :: r, i, s => by
    simp only [foldE]
    cases g i x s with
    | inl s' => exact foldE_onSum g fin out f h r (i + 1) s'
    | inr r => rfl
theorem foldE_map {α S R X Y : Type} (g : Nat → α → S → S ⊕ R) (fin : S → X) (out : R → X) (h : X → Y) : ∀ (xs : List α) (i : Nat) (s : S), foldE g (fun s => h (fin s)) (fun r => h (out r)) xs i s = h (foldE g fin out xs i s)
  | [], _, _ => rfl
  | x :: r, i, s => by
    simp only [foldE]
    cases g i x s with
    | inl s' => exact foldE_map g fin out h r (i + 1) s'
    | inr r => rfl
end Go.Ev
end

section
/- What a piece of a function answers: one thing where P holds, another where not. -/
set_option linter.unusedSimpArgs false
set_option linter.unusedVariables false
namespace Go.Ev
def Ans {X : Type} (m yes no : Option X) (P : Prop) : Prop := (P → m = yes) ∧ (¬ P → m = no)
section
variable {X Y A B : Type} {m x y yes no : Option X} {P Q R c : Prop} [Decidable c]
theorem ans_yes : Ans yes yes no True := ⟨fun _ => rfl, fun h => absurd trivial h⟩
theorem ans_end (h : m = yes) : Ans m yes no True := ⟨fun _ => h, fun h' => absurd trivial h'⟩
theorem ans_no : Ans no yes no False := ⟨fun h => h.elim, fun _ => rfl⟩
theorem ans_iff (h : Ans m yes no P) (e : P ↔ Q) : Ans m yes no Q := ⟨fun q => h.1 (e.2 q), fun q => h.2 fun p => q (e.1 p)⟩
theorem ans_dec {b : Bool} : Ans (some b) (some true) (some false) (b = true) := by cases b <;> exact ⟨fun h => by simp at h ⊢, fun h => by simp at h ⊢⟩
theorem ans_decide : Ans (some (decide c)) (some true) (some false) c := ⟨fun h => by rw [decide_eq_true h], fun h => by rw [decide_eq_false h]⟩
theorem ans_ndecide : Ans (some (!decide c)) (some true) (some false) (¬ c) := ⟨fun h => by rw [decide_eq_false h]; rfl, fun h => by rw [decide_eq_true (Classical.not_not.1 h)]; rfl⟩
theorem ans_chk (hc : c) (h : Ans x yes no P) : Ans (br (decide c) x y) yes no P := by rw [br_pos hc]; exact h
theorem ans_chkn (hc : ¬ c) (h : Ans y yes no P) : Ans (br (decide c) x y) yes no P := by rw [br_neg hc]; exact h
theorem ans_br_no (h : ¬ c → Ans x yes no P) : Ans (br (decide c) no x) yes no (¬ c ∧ P) := by
  by_cases hc : c
  · rw [br_pos hc]; exact ⟨fun h => absurd hc h.1, fun _ => rfl⟩
  · rw [br_neg hc]; exact ans_iff (h hc) ⟨fun h => ⟨hc, h⟩, fun h => h.2⟩
theorem ans_br_no' (h : c → Ans x yes no P) : Ans (br (decide c) x no) yes no (c ∧ P) := by
  by_cases hc : c
  · rw [br_pos hc]; exact ans_iff (h hc) ⟨fun h => ⟨hc, h⟩, fun h => h.2⟩
  · rw [br_neg hc]; exact ⟨fun h => absurd h.1 hc, fun _ => rfl⟩
theorem ans_br_yes (h : ¬ c → Ans x yes no P) : Ans (br (decide c) yes x) yes no (c ∨ P) := by
  by_cases hc : c
  · rw [br_pos hc]; exact ⟨fun _ => rfl, fun h => absurd (.inl hc) h⟩
  · rw [br_neg hc]; exact ans_iff (h hc) ⟨.inr, fun h => h.resolve_left hc⟩
theorem ans_br_yes' (h : c → Ans x yes no P) : Ans (br (decide c) x yes) yes no (c → P) := by
  by_cases hc : c
  · rw [br_pos hc]; exact ans_iff (h hc) ⟨fun h _ => h, fun h => h hc⟩
  · rw [br_neg hc]; exact ⟨fun _ => rfl, fun h => absurd (fun h' => absurd h' hc) h⟩
theorem ans_br (h : c → Ans x yes no P) (k : ¬ c → Ans y yes no Q) : Ans (br (decide c) x y) yes no ((c → P) ∧ (¬ c → Q)) := by
  by_cases hc : c
  · rw [br_pos hc]; exact ans_iff (h hc) ⟨fun h => ⟨fun _ => h, fun h' => absurd hc h'⟩, fun h => h.1 hc⟩
  · rw [br_neg hc]; exact ans_iff (k hc) ⟨fun h => ⟨fun h' => absurd h' hc, fun _ => h⟩, fun h => h.2 hc⟩
theorem ans_brt (h : Ans x yes no P) : Ans (br true x y) yes no P := h
theorem ans_brf (h : Ans y yes no P) : Ans (br false x y) yes no P := h
theorem br_swap (b : Bool) (x y : Option X) : br (!b) x y = br b y x := by cases b <;> rfl
theorem br_bool (b : Bool) (x y : Option X) : br b x y = br (decide (b = true)) x y := by cases b <;> rfl
theorem ans_bool_no {b : Bool} (h : ¬ b = true → Ans x yes no P) : Ans (br b no x) yes no (¬ b = true ∧ P) := by rw [br_bool]; exact ans_br_no h
theorem ans_bool_no' {b : Bool} (h : b = true → Ans x yes no P) : Ans (br b x no) yes no (b = true ∧ P) := by rw [br_bool]; exact ans_br_no' h
theorem ans_bool_yes {b : Bool} (h : ¬ b = true → Ans x yes no P) : Ans (br b yes x) yes no (b = true ∨ P) := by rw [br_bool]; exact ans_br_yes h
theorem ans_bool_yes' {b : Bool} (h : b = true → Ans x yes no P) : Ans (br b x yes) yes no (b = true → P) := by rw [br_bool]; exact ans_br_yes' h
theorem ans_bool {b : Bool} (h : b = true → Ans x yes no P) (k : ¬ b = true → Ans y yes no Q) : Ans (br b x y) yes no ((b = true → P) ∧ (¬ b = true → Q)) := by rw [br_bool]; exact ans_br h k
theorem ans_bnd {mm : Option Y} {a b : Y} {f : Y → Option X} (h : Ans mm (some a) (some b) P) (h1 : P → Ans (f a) yes no Q) (h2 : ¬ P → Ans (f b) yes no R) : Ans (bnd mm f) yes no ((P → Q) ∧ (¬ P → R)) := by
  by_cases hp : P
  · rw [h.1 hp]; exact ans_iff (h1 hp) ⟨fun h => ⟨fun _ => h, fun h' => absurd hp h'⟩, fun h => h.1 hp⟩
  · rw [h.2 hp]; exact ans_iff (h2 hp) ⟨fun h => ⟨fun h' => absurd h' hp, fun _ => h⟩, fun h => h.2 hp⟩
theorem ans_bnd_no {mm : Option Y} {a b : Y} {f : Y → Option X} (h : Ans mm (some a) (some b) P) (h2 : f b = no) (h1 : P → Ans (f a) yes no Q) : Ans (bnd mm f) yes no (P ∧ Q) := by
  by_cases hp : P
  · rw [h.1 hp]; exact ans_iff (h1 hp) ⟨fun h => ⟨hp, h⟩, fun h => h.2⟩
  · rw [h.2 hp]; exact ⟨fun h => absurd h.1 hp, fun _ => h2⟩
theorem ans_bnd_no' {mm : Option Y} {a b : Y} {f : Y → Option X} (h : Ans mm (some a) (some b) P) (h2 : f a = no) (h1 : ¬ P → Ans (f b) yes no Q) : Ans (bnd mm f) yes no (¬ P ∧ Q) := by
  by_cases hp : P
  · rw [h.1 hp]; exact ⟨fun h => absurd hp h.1, fun _ => h2⟩
  · rw [h.2 hp]; exact ans_iff (h1 hp) ⟨fun h => ⟨hp, h⟩, fun h => h.2⟩
theorem ans_bnd_yes {mm : Option Y} {a b : Y} {f : Y → Option X} (h : Ans mm (some a) (some b) P) (h2 : f a = yes) (h1 : ¬ P → Ans (f b) yes no Q) : Ans (bnd mm f) yes no (P ∨ Q) := by
  by_cases hp : P
  · rw [h.1 hp]; exact ⟨fun _ => h2, fun h => absurd (.inl hp) h⟩
  · rw [h.2 hp]; exact ans_iff (h1 hp) ⟨.inr, fun h => h.resolve_left hp⟩
theorem ans_bnd_yes' {mm : Option Y} {a b : Y} {f : Y → Option X} (h : Ans mm (some a) (some b) P) (h2 : f b = yes) (h1 : P → Ans (f a) yes no Q) : Ans (bnd mm f) yes no (P → Q) := by
  by_cases hp : P
  · rw [h.1 hp]; exact ans_iff (h1 hp) ⟨fun h _ => h, fun h => h hp⟩
  · rw [h.2 hp]; exact ⟨fun _ => h2, fun h => absurd (fun h' => absurd h' hp) h⟩
/-- the last call -/
theorem ans_bnd_end {mm : Option Y} {a b : Y} {f : Y → Option X} (h : Ans mm (some a) (some b) P) (h1 : f a = yes) (h2 : f b = no) : Ans (bnd mm f) yes no P := by
  by_cases hp : P
  · rw [h.1 hp]; exact ⟨fun _ => h1, fun h => absurd hp h⟩
  · rw [h.2 hp]; exact ⟨fun h => absurd h hp, fun _ => h2⟩
theorem ans_bnd_end' {mm : Option Y} {a b : Y} {f : Y → Option X} (h : Ans mm (some a) (some b) P) (h1 : f a = no) (h2 : f b = yes) : Ans (bnd mm f) yes no (¬ P) := by
  by_cases hp : P
  · rw [h.1 hp]; exact ⟨fun h => absurd hp h, fun _ => h1⟩
  · rw [h.2 hp]; exact ⟨fun _ => h2, fun h => absurd hp h⟩
theorem ans_val {mm : Option Y} {v : Y} {f : Y → Option X} (h : mm = some v) (h1 : Ans (f v) yes no Q) : Ans (bnd mm f) yes no Q := by rw [h]; exact h1
theorem bnd_eq {mm : Option Y} {v : Y} {f : Y → Option X} (h : mm = some v) : bnd mm f = f v := by rw [h]; rfl
theorem ans_not {m : Option Bool} (h : Ans m (some true) (some false) P) : Ans m (some false) (some true) (¬ P) := ⟨fun hp => h.2 hp, fun hp => h.1 (Classical.not_not.1 hp)⟩
theorem ans_eq {m m' : Option X} (h : Ans m yes no P) (h' : Ans m' yes no Q) (e : P ↔ Q) : m = m' := by
  by_cases hp : P
  · rw [h.1 hp, h'.1 (e.1 hp)]
  · rw [h.2 hp, h'.2 fun q => hp (e.2 q)]
theorem ans_total {m : Option Bool} (h : Ans m (some true) (some false) P) : ∃ b : Bool, m = some b ∧ (b = true ↔ P) := by
  by_cases hp : P
  · exact ⟨true, h.1 hp, by simp [hp]⟩
  · exact ⟨false, h.2 hp, by simp [hp]⟩
/-- n rounds, each asks p i -/
theorem ans_rounds {T : Type} {B : T → (T → Option X) → Option X} (emb : Nat → T) (N : Nat) (p : Nat → Prop)
    (hstep : ∀ i C, i < N → (∀ j, j < i → p j) → Ans (B (emb i) C) (C (emb (i + 1))) no (p i)) (hend : ∀ C, (∀ j, j < N → p j) → B (emb N) C = yes) :
    ∀ n i, i ≤ N → N < n + i → (∀ j, j < i → p j) → Ans (forG B n (emb i)) yes no (∀ j, i ≤ j → j < N → p j)
  | 0, i, h1, h2, _ => absurd h1 (by omega)
  | n + 1, i, h1, h2, h3 => by
    simp only [forG]
    by_cases hi : i < N
    · have hs := hstep i (forG B n) hi h3
      by_cases hp : p i
      · rw [hs.1 hp]
        refine ans_iff (ans_rounds emb N p hstep hend n (i + 1) hi (by omega) fun j hj => ?_) ⟨fun h j hj hN => ?_, fun h j hj hN => h j (by omega) hN⟩
        · rcases Nat.lt_or_ge j i with h | h
          · exact h3 j h
          · have : j = i := by omega
            subst this; exact hp
        · rcases Nat.eq_or_lt_of_le hj with h' | h'
          · subst h'; exact hp
          · exact h j h' hN
      · rw [hs.2 hp]
        exact ⟨fun h => absurd (h i (Nat.le_refl _) hi) hp, fun _ => rfl⟩
    · have : i = N := by omega
      subst this
      rw [hend _ h3]
      exact ⟨fun _ => rfl, fun h => absurd (fun j hj hN => absurd hj (by omega)) h⟩
theorem ans_loop {T : Type} {B : T → (T → Option X) → Option X} (emb : Nat → T) (N : Nat) (p : Nat → Prop)
    (hstep : ∀ i C, i < N → (∀ j, j < i → p j) → Ans (B (emb i) C) (C (emb (i + 1))) no (p i)) (hend : ∀ C, (∀ j, j < N → p j) → B (emb N) C = yes) {n : Nat} (hn : N < n) :
    Ans (forG B n (emb 0)) yes no (∀ j, j < N → p j) :=
  ans_iff (ans_rounds emb N p hstep hend n 0 (Nat.zero_le _) (by omega) fun j hj => absurd hj (by omega)) ⟨fun h j hj => h j (Nat.zero_le _) hj, fun h j _ hj => h j hj⟩
theorem wrap_succ {i : Nat} (h : i < 9223372036854775807) : IntKind.i64.wrap ((i : Int) + 1) = ((i + 1 : Nat) : Int) := by rw [wrap_eq (by omega) (by omega)]; omega
theorem beq_dec {α : Type} [BEq α] [LawfulBEq α] [DecidableEq α] (a b : α) : (a == b) = decide (a = b) := by
  by_cases h : a = b
  · subst h; simp
  · rw [decide_eq_false h]; simpa using h
theorem bne_dec {α : Type} [BEq α] [LawfulBEq α] [DecidableEq α] (a b : α) : (a != b) = decide (¬ a = b) := by
  unfold bne; rw [beq_dec]; simp
theorem not_dec : (!decide c) = decide (¬ c) := by simp
end
theorem eqI_dec (a b : Int) : eqI a b = decide (a = b) := beq_dec a b
theorem eqB_dec (a b : Bool) : eqB a b = decide (a = b) := beq_dec a b
theorem eqS_dec (a b : List UInt8) : eqS a b = decide (a = b) := beq_dec a b
theorem andB_dec (p q : Prop) [Decidable p] [Decidable q] : andB (decide p) (decide q) = decide (p ∧ q) := by simp [andB]
theorem andB_true (a : Bool) : andB a true = a := by simp [andB]
/-- the place of the first of a kind; -1: there is none -/
def idx {α : Type} (p : α → Bool) (xs : List α) : Int := if xs.findIdx p < xs.length then (xs.findIdx p : Int) else -1
section
variable {α : Type} {p : α → Bool} {xs : List α}
theorem idx_neg : idx p xs < 0 ↔ ∀ x ∈ xs, p x = false := by
  unfold idx
  split
  · rename_i h
    refine ⟨fun h' => absurd h' (by omega), fun h' => ?_⟩
    have := List.findIdx_getElem (p := p) (w := h)
    rw [h' _ (List.getElem_mem h)] at this
    cases this
  · rename_i h
    refine ⟨fun _ x hx => ?_, fun _ => by omega⟩
    cases hpx : p x with
    | false => rfl
    | true => exact absurd (List.findIdx_lt_length.2 ⟨x, hx, hpx⟩) h
theorem idx_lt : idx p xs < xs.length := by
  unfold idx
  split <;> omega
theorem idx_ge : -1 ≤ idx p xs := by
  unfold idx
  split <;> omega
theorem idx_eq {i : Nat} : idx p xs = (i : Int) ↔ ∃ h : i < xs.length, p xs[i] = true ∧ ∀ j (hj : j < i), p (xs[j]'(by omega)) = false := by
  unfold idx
  split
  · rename_i h
    constructor
    · intro e
      have e : xs.findIdx p = i := by omega
      subst e
      exact ⟨h, List.findIdx_getElem, fun j hj => by simpa using List.not_of_lt_findIdx hj⟩
    · rintro ⟨h1, h2, h3⟩
      have : xs.findIdx p = i := (List.findIdx_eq h1).2 ⟨h2, h3⟩
      omega
  · rename_i h
    refine ⟨fun e => by omega, fun ⟨h1, h2, _⟩ => absurd (List.findIdx_lt_length.2 ⟨_, List.getElem_mem h1, h2⟩) h⟩
theorem idx_rounds {T X : Type} {z : α} {B : T → (T → Option X) → Option X} (emb : Nat → T) (out : Nat → X) (fin : X)
    (hstep : ∀ i C, i < xs.length → B (emb i) C = if p (xs.getD i z) = true then some (out i) else C (emb (i + 1))) (hend : ∀ C, B (emb xs.length) C = some fin) :
    ∀ n i, i ≤ xs.length → xs.length < n + i → (∀ j (hj : j < xs.length), j < i → p xs[j] = false) → forG B n (emb i) = some (if xs.findIdx p < xs.length then out (xs.findIdx p) else fin)
  | 0, i, h1, h2, _ => absurd h1 (by omega)
  | n + 1, i, h1, h2, h3 => by
    simp only [forG]
    by_cases hi : i < xs.length
    · rw [hstep i _ hi]
      have hg : xs.getD i z = xs[i] := by simp [List.getD_eq_getElem?_getD, hi]
      rw [hg]
      by_cases hp : p xs[i] = true
      · have : xs.findIdx p = i := (List.findIdx_eq hi).2 ⟨hp, fun j hj => h3 j (by omega) hj⟩
        rw [if_pos hp, this, if_pos hi]
      · rw [if_neg hp]
        refine idx_rounds emb out fin hstep hend n (i + 1) hi (by omega) fun j hj hji => ?_
        rcases Nat.lt_or_ge j i with h | h
        · exact h3 j hj h
        · have : j = i := by omega
          subst this; simpa using hp
    · have : i = xs.length := by omega
      subst this
      have hno : ¬ xs.findIdx p < xs.length := fun h => by
        have h4 := List.findIdx_getElem (p := p) (w := h)
        rw [h3 _ h h] at h4; cases h4
      rw [hend, if_neg hno]
theorem idx_loop {T X : Type} {z : α} {B : T → (T → Option X) → Option X} (emb : Nat → T) (out : Nat → X) (fin : X)
    (hstep : ∀ i C, i < xs.length → B (emb i) C = if p (xs.getD i z) = true then some (out i) else C (emb (i + 1))) (hend : ∀ C, B (emb xs.length) C = some fin) {n : Nat} (hn : xs.length < n) :
    forG B n (emb 0) = some (if xs.findIdx p < xs.length then out (xs.findIdx p) else fin) :=
  idx_rounds emb out fin hstep hend n 0 (Nat.zero_le _) (by omega) fun j hj h => absurd h (by omega)
end
end Go.Ev
end

section
/- The guard, copies, equality: what their loops do. -/
set_option linter.unusedSimpArgs false
set_option linter.unusedVariables false
namespace Go.Ev
def Rng (k : IntKind) (n : Int) : Prop := (Lit.int k n).wf = true
def SzR (m : Option Int) (S : Prop) : Prop := ∃ r, m = some r ∧ (r = -1 ∨ (0 ≤ r ∧ r ≤ 1048576 ∧ S))
theorem sz_less {b c : Int} {n : Nat} (hw : IntKind.i64.wrap (b - (n : Int)) = c) (h0 : 0 ≤ b) (h1 : b ≤ 1048576) (hn : n ≤ maxLen) : c < 0 ∨ (0 ≤ c ∧ c ≤ 1048576 ∧ n ≤ 1048576) := by
  simp only [maxLen] at hn
  rw [wrap_eq (by omega) (by omega)] at hw
  omega
theorem szr_and {m : Option Int} {A B : Prop} (a : A) (h : SzR m B) : SzR m (A ∧ B) := by
  obtain ⟨r, e, h⟩ := h
  exact ⟨r, e, h.imp id fun ⟨h0, h1, h2⟩ => ⟨h0, h1, a, h2⟩⟩
theorem mem_getD {α : Type} {xs : List α} {z : α} {i : Nat} (hi : i < xs.length) : xs.getD i z ∈ xs := by
  rw [List.getD_eq_getElem?_getD, List.getElem?_eq_getElem hi]; exact List.getElem_mem hi
theorem sz_loop {α : Type} {xs : List α} (z : α) {B : List α × Int × Int → (List α × Int × Int → Option (Int ⊕ Int)) → Option (Int ⊕ Int)} {E : α → Prop}
    (hB : ∀ (i : Nat) (s : Int) C, i < xs.length → 0 ≤ s → s ≤ 1048576 → ∃ r, (r = -1 ∨ (0 ≤ r ∧ r ≤ 1048576 ∧ E (xs.getD i z))) ∧ B (xs, s, (i : Int)) C = if r < 0 then some (.inr (-1)) else C (xs, r, ((i + 1 : Nat) : Int)))
    (hEnd : ∀ (s : Int) C, B (xs, s, (xs.length : Int)) C = some (.inl s)) (b : Int) (h0 : 0 ≤ b) (h1 : b ≤ 1048576) {n : Nat} (hn : xs.length < n) :
    SzR (bnd (forG B n (xs, b, 0)) fun y1 => onSum y1 (fun y2 => some y2) fun y2 => some y2) (∀ y ∈ xs, E y) := by
  have key : ∀ n i b, 0 ≤ b → b ≤ 1048576 → i ≤ xs.length → xs.length < n + i → (∀ j (hj : j < xs.length), j < i → E xs[j]) → SzR (bnd (forG B n (xs, b, (i : Int))) fun y1 => onSum y1 (fun y2 => some y2) fun y2 => some y2) (∀ y ∈ xs, E y) := by
    intro n
    induction n with
    | zero => intro i b _ _ h1 h2; omega
    | succ n ih =>
      intro i b b0 b1 hi hn hE
      simp only [forG]
      by_cases hlt : i < xs.length
      · obtain ⟨r, hr, e⟩ := hB i b (forG B n) hlt b0 b1
        rw [e]
        rcases hr with rfl | ⟨r0, r1, hr⟩
        · exact ⟨-1, by simp [bnd, onSum], .inl rfl⟩
        · rw [if_neg (by omega)]
          refine ih (i + 1) r r0 r1 hlt (by omega) fun j hj hji => ?_
          have hg : xs.getD i z = xs[i] := by simp [List.getD_eq_getElem?_getD, hlt]
          rw [hg] at hr
          rcases Nat.lt_or_ge j i with h | h
          · exact hE j hj h
          · have : j = i := by omega
            subst this; exact hr
      · have : i = xs.length := by omega
        subst this
        rw [hEnd]
        refine ⟨b, rfl, .inr ⟨b0, b1, fun y hy => ?_⟩⟩
        obtain ⟨j, hj, rfl⟩ := List.mem_iff_getElem.1 hy
        exact hE j hj hj
  exact key n 0 b h0 h1 (Nat.zero_le _) (by omega) fun j hj h => absurd h (by omega)
theorem sz_less' {b c : Int} {n : Nat} (hw : IntKind.i64.wrap (b - (n : Int)) = c) (h0 : 0 ≤ b) (h1 : b ≤ 1048576) (hn : n ≤ maxLen) : ∃ r : Int, (r = -1 ∨ (0 ≤ r ∧ r ≤ 1048576 ∧ n ≤ 1048576)) ∧ (c < 0 ∧ r = -1 ∨ c = r) := by
  rcases sz_less hw h0 h1 hn with h | h
  · exact ⟨-1, .inl rfl, .inl ⟨h, rfl⟩⟩
  · exact ⟨c, .inr h, .inr rfl⟩
theorem fold_copy {α R : Type} (out : R → List α) : ∀ (xs pre post : List α), xs.length = post.length → foldE (fun i (x : α) (ys : List α) => (.inl (ys.set i x) : List α ⊕ R)) id out xs pre.length (pre ++ post) = pre ++ xs
  | [], pre, post, h => by
    have : post = [] := List.eq_nil_of_length_eq_zero (by simpa using h.symm)
    subst this
    rfl
  | x :: r, pre, [], h => by simp at h
  | x :: r, pre, p :: post, h => by
    simp only [foldE]
    have e : (pre ++ p :: post).set pre.length x = (pre ++ [x]) ++ post := by simp
    have el : pre.length + 1 = (pre ++ [x]).length := by simp
    rw [e, el, fold_copy out r (pre ++ [x]) post (by simpa using h)]
    simp
theorem copy_loop {α : Type} (xs : List α) (z z' : α) {B : List α × List α × Int → (List α × List α × Int → Option (List α)) → Option (List α)}
    (hB : ∀ (i : Nat) (ys : List α) C, i < xs.length → ys.length = xs.length → B (xs, ys, (i : Int)) C = C (xs, ys.set i (xs.getD i z), ((i + 1 : Nat) : Int)))
    (hEnd : ∀ (ys : List α) C, B (xs, ys, (xs.length : Int)) C = some ys) {n : Nat} (hn : xs.length < n) : forG B n (xs, List.replicate xs.length z', 0) = some xs := by
  have key := forG_fold0 (S := List α) (R := Empty) (X := List α) (xs := xs) z (B := B) (fun i ys => (xs, ys, i)) (fun i x ys => .inl (ys.set i x)) id (fun r => r.elim) (fun _ ys => ys.length = xs.length)
    (fun i ys C hi hy => by
      refine ⟨hB i ys C hi hy, fun s' e => ?_⟩
      obtain rfl := Sum.inl.inj e
      simp only [List.length_set]
      exact hy)
    (fun ys C _ => hEnd ys C) (n := n) (s := List.replicate xs.length z') hn (by simp)
  rw [key]
  have := fold_copy (R := Empty) (fun r => r.elim) xs [] (List.replicate xs.length z') (by simp)
  simp only [List.length_nil, List.nil_append] at this
  exact congrArg some this
theorem eq_loop {α : Type} (xs : List α) {B : List α × List α × Int → (List α × List α × Int → Option (Unit ⊕ Bool)) → Option (Unit ⊕ Bool)}
    (hB : ∀ (i : Nat) C, i < xs.length → B (xs, xs, (i : Int)) C = C (xs, xs, ((i + 1 : Nat) : Int))) (hEnd : ∀ C, B (xs, xs, (xs.length : Int)) C = some (.inl ())) {n : Nat} (hn : xs.length < n) :
    ∀ i, i ≤ xs.length → xs.length < n + i → forG B n (xs, xs, (i : Int)) = some (.inl ()) := by
  clear hn
  induction n with
  | zero => intro i h1 h2; omega
  | succ n ih =>
    intro i h1 h2
    simp only [forG]
    by_cases hi : i < xs.length
    · rw [hB i _ hi]
      exact ih (i + 1) (by omega) (by omega)
    · have : i = xs.length := by omega
      subst this
      exact hEnd _
end Go.Ev
end

section
/- Marks: what a mark writes, a look afterwards finds again. -/
set_option linter.unusedSimpArgs false
set_option linter.unusedVariables false
namespace Go.Ev
open Go Go.Proofs
def MkMax : Int := 4611686018427387904
def MK {X : Type} (M : X → Int → Option (Int × X)) (H : X → Int → Option Int) (c : Int) (P : X → Prop) : Prop :=
  ∀ x k, P x → 0 ≤ k → k + c ≤ MkMax → ∃ k' x', M x k = some (k', x') ∧ H x' k = some k' ∧ k ≤ k' ∧ k' ≤ k + c
def MkStep {X : Type} (zm zh : X) (BM : List X × Int × Int → (List X × Int × Int → Option (List X × Int)) → Option (List X × Int)) (BH : List X × Int × Int → (List X × Int × Int → Option (Int ⊕ Int)) → Option (Int ⊕ Int)) (c : Int) (P : X → Prop) : Prop :=
  ∀ (i : Nat) x k, P x → 0 ≤ k → k + c ≤ MkMax → i < 1048576 → ∃ k' x',
    (∀ l C, i < l.length → l.getD i zm = x → BM (l, k, (i : Int)) C = C (l.set i x', k', ((i + 1 : Nat) : Int))) ∧
    (∀ l C, i < l.length → l.getD i zh = x' → BH (l, k, (i : Int)) C = C (l, k', ((i + 1 : Nat) : Int))) ∧ k ≤ k' ∧ k' ≤ k + c
theorem getD_setl {α : Type} {l : List α} {i : Nat} {x z : α} (h : i < l.length) : (l.set i x).getD i z = x := by
  simp [List.getD_eq_getElem?_getD, h]
theorem getD_mid {α : Type} (p : List α) (x : α) (t : List α) (z : α) : (p ++ x :: t).getD p.length z = x := by
  simp [List.getD_eq_getElem?_getD]
theorem set_mid {α : Type} (p : List α) (x y : α) (t : List α) : (p ++ x :: t).set p.length y = p ++ y :: t := by
  simp
section
variable {X : Type} {zm zh : X} {BM : List X × Int × Int → (List X × Int × Int → Option (List X × Int)) → Option (List X × Int)} {BH : List X × Int × Int → (List X × Int × Int → Option (Int ⊕ Int)) → Option (Int ⊕ Int)} {c : Int} {P : X → Prop}
theorem mk_loop (hs : MkStep zm zh BM BH c P) (hc : 0 ≤ c)
    (hm : ∀ l k C, BM (l, k, (l.length : Int)) C = some (l, k)) (hh : ∀ l k C, BH (l, k, (l.length : Int)) C = some (.inl k)) :
    ∀ (r p : List X) (k : Int), (∀ x ∈ r, P x) → 0 ≤ k → k + c * r.length ≤ MkMax → p.length + r.length ≤ 1048576 → ∃ k' r',
      r'.length = r.length ∧ k ≤ k' ∧ k' ≤ k + c * r.length ∧ (∀ n, r.length < n → forG BM n (p ++ r, k, (p.length : Int)) = some (p ++ r', k')) ∧
      (∀ n (q : List X), q.length = p.length → r.length < n → forG BH n (q ++ r', k, (p.length : Int)) = some (.inl k'))
  | [], p, k, _, h0, hk, hl => by
    refine ⟨k, [], rfl, Int.le_refl _, by simp, fun n hn => ?_, fun n q hq hn => ?_⟩
    · obtain ⟨m, rfl⟩ : ∃ m, n = m + 1 := ⟨n - 1, by simp at hn; omega⟩
      have := hm p k (forG BM m)
      simpa [forG] using this
    · obtain ⟨m, rfl⟩ : ∃ m, n = m + 1 := ⟨n - 1, by simp at hn; omega⟩
      have := hh q k (forG BH m)
      rw [hq] at this
      simpa [forG] using this
  | x :: t, p, k, hP, h0, hk, hl => by
    have hlen : ((x :: t).length : Int) = t.length + 1 := by simp
    have hmul : c * ((x :: t).length : Int) = c * t.length + c := by rw [hlen, Int.mul_add, Int.mul_one]
    have hpos : 0 ≤ c * (t.length : Int) := Int.mul_nonneg hc (by omega)
    rw [hmul] at hk ⊢
    have hl' : p.length + (t.length + 1) ≤ 1048576 := by simpa using hl
    obtain ⟨k1, x', e1, e2, g1, g2⟩ := hs p.length x k (hP x (by simp)) h0 (by omega) (by omega)
    obtain ⟨k2, t', q1, q2, q3, q4, q5⟩ := mk_loop hs hc hm hh t (p ++ [x']) k1 (fun y hy => hP y (by simp [hy])) (by omega) (by omega) (by simp; omega)
    refine ⟨k2, x' :: t', by simp [q1], by omega, by omega, fun n hn => ?_, fun n q hq hn => ?_⟩
    · obtain ⟨m, rfl⟩ : ∃ m, n = m + 1 := ⟨n - 1, by simp at hn; omega⟩
      have a := e1 (p ++ x :: t) (forG BM m) (by simp) (getD_mid p x t zm)
      rw [set_mid] at a
      have b := q4 m (by simp at hn; omega)
      simp only [List.append_assoc, List.cons_append, List.nil_append, List.length_append, List.length_cons, List.length_nil, Nat.zero_add] at b
      simp only [forG]; rw [a]; exact b
    · obtain ⟨m, rfl⟩ : ∃ m, n = m + 1 := ⟨n - 1, by simp at hn; omega⟩
      have a := e2 (q ++ x' :: t') (forG BH m) (by simp; omega) (by rw [← hq]; exact getD_mid q x' t' zh)
      have b := q5 m (q ++ [x']) (by simp [hq]) (by simp at hn; omega)
      simp only [List.append_assoc, List.cons_append, List.nil_append, List.length_append, List.length_cons, List.length_nil, Nat.zero_add] at b
      simp only [forG]; rw [a]; exact b
theorem mk_slice (hs : MkStep zm zh BM BH c P) (hc : 0 ≤ c)
    (hm : ∀ l k C, BM (l, k, (l.length : Int)) C = some (l, k)) (hh : ∀ l k C, BH (l, k, (l.length : Int)) C = some (.inl k))
    (l : List X) (k : Int) (hP : l.length ≤ 1048576 ∧ ∀ x ∈ l, P x) (h0 : 0 ≤ k) (hk : k + c * 1048576 ≤ MkMax) : ∃ k' l',
      forG BM ((l.length : Int).toNat + 1) (l, k, 0) = some (l', k') ∧ forG BH ((l'.length : Int).toNat + 1) (l', k, 0) = some (.inl k') ∧ k ≤ k' ∧ k' ≤ k + c * 1048576 := by
  have hmul : c * (l.length : Int) ≤ c * 1048576 := Int.mul_le_mul_of_nonneg_left (by omega) hc
  obtain ⟨k', l', e1, g1, g2, e2, e3⟩ := mk_loop hs hc hm hh l [] k hP.2 h0 (by omega) (by simpa using hP.1)
  refine ⟨k', l', ?_, ?_, g1, by omega⟩
  · have := e2 ((l.length : Int).toNat + 1) (by simp)
    simpa using this
  · have := e3 ((l'.length : Int).toNat + 1) [] rfl (by simp [e1])
    simpa using this
end
/-- marks of which nothing is asked afterwards -/
def MKo {X : Type} (M : X → Int → Option (Int × X)) (c : Int) (P : X → Prop) : Prop :=
  ∀ x k, P x → 0 ≤ k → k + c ≤ MkMax → ∃ k' x', M x k = some (k', x') ∧ k ≤ k' ∧ k' ≤ k + c
def MkStepo {X : Type} (zm : X) (BM : List X × Int × Int → (List X × Int × Int → Option (List X × Int)) → Option (List X × Int)) (c : Int) (P : X → Prop) : Prop :=
  ∀ (i : Nat) x k, P x → 0 ≤ k → k + c ≤ MkMax → i < 1048576 → ∃ k' x',
    (∀ l C, i < l.length → l.getD i zm = x → BM (l, k, (i : Int)) C = C (l.set i x', k', ((i + 1 : Nat) : Int))) ∧ k ≤ k' ∧ k' ≤ k + c
section
variable {X : Type} {zm : X} {BM : List X × Int × Int → (List X × Int × Int → Option (List X × Int)) → Option (List X × Int)} {c : Int} {P : X → Prop}
theorem mk_loopo (hs : MkStepo zm BM c P) (hc : 0 ≤ c)
    (hm : ∀ l k C, BM (l, k, (l.length : Int)) C = some (l, k)) :
    ∀ (r p : List X) (k : Int), (∀ x ∈ r, P x) → 0 ≤ k → k + c * r.length ≤ MkMax → p.length + r.length ≤ 1048576 → ∃ k' r',
      r'.length = r.length ∧ k ≤ k' ∧ k' ≤ k + c * r.length ∧ (∀ n, r.length < n → forG BM n (p ++ r, k, (p.length : Int)) = some (p ++ r', k'))
  | [], p, k, _, h0, hk, hl => by
    refine ⟨k, [], rfl, Int.le_refl _, by simp, fun n hn => ?_⟩
    obtain ⟨m, rfl⟩ : ∃ m, n = m + 1 := ⟨n - 1, by simp at hn; omega⟩
    have := hm p k (forG BM m)
    simpa [forG] using this
  | x :: t, p, k, hP, h0, hk, hl => by
    have hlen : ((x :: t).length : Int) = t.length + 1 := by simp
    have hmul : c * ((x :: t).length : Int) = c * t.length + c := by rw [hlen, Int.mul_add, Int.mul_one]
    have hpos : 0 ≤ c * (t.length : Int) := Int.mul_nonneg hc (by omega)
    rw [hmul] at hk ⊢
    have hl' : p.length + (t.length + 1) ≤ 1048576 := by simpa using hl
    obtain ⟨k1, x', e1, g1, g2⟩ := hs p.length x k (hP x (by simp)) h0 (by omega) (by omega)
    obtain ⟨k2, t', q1, q2, q3, q4⟩ := mk_loopo hs hc hm t (p ++ [x']) k1 (fun y hy => hP y (by simp [hy])) (by omega) (by omega) (by simp; omega)
    refine ⟨k2, x' :: t', by simp [q1], by omega, by omega, fun n hn => ?_⟩
    obtain ⟨m, rfl⟩ : ∃ m, n = m + 1 := ⟨n - 1, by simp at hn; omega⟩
    have a := e1 (p ++ x :: t) (forG BM m) (by simp) (getD_mid p x t zm)
    rw [set_mid] at a
    have b := q4 m (by simp at hn; omega)
    simp only [List.append_assoc, List.cons_append, List.nil_append, List.length_append, List.length_cons, List.length_nil, Nat.zero_add] at b
    simp only [forG]; rw [a]; exact b
theorem mk_sliceo (hs : MkStepo zm BM c P) (hc : 0 ≤ c)
    (hm : ∀ l k C, BM (l, k, (l.length : Int)) C = some (l, k))
    (l : List X) (k : Int) (hP : l.length ≤ 1048576 ∧ ∀ x ∈ l, P x) (h0 : 0 ≤ k) (hk : k + c * 1048576 ≤ MkMax) : ∃ k' l',
      forG BM ((l.length : Int).toNat + 1) (l, k, 0) = some (l', k') ∧ k ≤ k' ∧ k' ≤ k + c * 1048576 := by
  have hmul : c * (l.length : Int) ≤ c * 1048576 := Int.mul_le_mul_of_nonneg_left (by omega) hc
  obtain ⟨k', l', e1, g1, g2, e2⟩ := mk_loopo hs hc hm l [] k hP.2 h0 (by omega) (by simpa using hP.1)
  refine ⟨k', l', ?_, g1, by omega⟩
  have := e2 ((l.length : Int).toNat + 1) (by simp)
  simpa using this
end
theorem not3 : (!((3 : Nat) == 0)) = true := rfl
theorem not10 : (!((10 : Nat) == 0)) = true := rfl
theorem text_loop {B : Int × List UInt8 → (Int × List UInt8 → Option (List UInt8)) → Option (List UInt8)} (d : Int → UInt8)
    (h1 : ∀ k s C, 0 < k → k ≤ 9000000000000000000 → s.length ≤ 100 → B (k, s) C = C (k.tdiv 10, d k :: s)) (h2 : ∀ s C, B (0, s) C = some s) :
    ∀ (m : Nat) (k : Int) (s : List UInt8) (n : Nat), 0 ≤ k → k ≤ 9000000000000000000 → k < 10 ^ m → s.length + m ≤ 100 → k.toNat < n → ∃ t, forG B n (k, s) = some t ∧ t.length ≤ 100
  | 0, k, s, n, h0, hk2, hk, hs, hn => by
    have : k = 0 := by simp at hk; omega
    subst this
    obtain ⟨j, rfl⟩ : ∃ j, n = j + 1 := ⟨n - 1, by omega⟩
    exact ⟨s, h2 s _, by omega⟩
  | m + 1, k, s, n, h0, hk2, hk, hs, hn => by
    obtain ⟨j, rfl⟩ : ∃ j, n = j + 1 := ⟨n - 1, by omega⟩
    by_cases hz : k = 0
    · subst hz; exact ⟨s, h2 s _, by omega⟩
    have hd : k.tdiv 10 = k / 10 := Int.tdiv_eq_ediv_of_nonneg h0
    have hk' : k < 10 ^ m * 10 := by rw [← Int.pow_succ]; exact hk
    obtain ⟨t, e, g⟩ := text_loop d h1 h2 m (k.tdiv 10) (d k :: s) j (by rw [hd]; omega) (by rw [hd]; omega) (by rw [hd]; generalize (10 : Int) ^ m = w at *; omega) (by simp; omega) (by rw [hd]; omega)
    exact ⟨t, by simp only [forG]; rw [h1 k s _ (by omega) hk2 (by omega)]; exact e, g⟩
end Go.Ev
end

section
/- What is read of an argument, as a typed value. -/
set_option linter.unusedSimpArgs false
set_option linter.unusedVariables false
namespace Go.Ev
open Go.RowKit (Below)

def tabDeep (P : Program) (Γ : Tab) : List (Nat × TI) → Bool
  | [] => true
  | (T, ti) :: r => tiDeep P Γ T ti && tabDeep P Γ r
def Deep (P : Program) (Γ : Tab) : Prop := ∀ T ti, find Γ T = some ti → tiDeep P Γ T ti = true
theorem deep_of {P : Program} {Γ : Tab} : ∀ {l : List (Nat × TI)}, tabDeep P Γ l = true → ∀ T ti, find l T = some ti → tiDeep P Γ T ti = true
  | [], _, T, ti, h => by simp [find] at h
  | (U, tu) :: r, h, T, ti, hf => by
    simp only [tabDeep, Bool.and_eq_true] at h
    rw [find_cons] at hf
    by_cases e : U = T
    · rw [if_pos e] at hf
      obtain rfl := Option.some.inj hf
      subst e
      exact h.1
    · rw [if_neg e] at hf
      exact deep_of h.2 T ti hf

/-- x reads as d. -/
def Rd {H : Type} : (t : Ty) → t.den → DataW H → Prop
  | .int k, n, d => d = .lit (.int k n) ∧ (Lit.int k n).wf = true
  | .bool, b, d => d = .lit (.bool b)
  | .str, s, d => d = .lit (.string s) ∧ s.length ≤ maxLen
  | .sl t, xs, d => (d = .nil ∧ xs = []) ∨ ∃ es sp, d = .slice es sp ∧ es.length = xs.length ∧ xs.length ≤ maxLen ∧ ∀ i e, es[i]? = some e → Rd t (xs.getD i t.zero) e
  | .unit, _, d => d = .agg []
  | .any, _, _ => False
  | .osl _ _, _, _ => False
  | .mp _ _, _, _ => False
  | .omp _ _, _, _ => False
  | .pair a b, x, d => ∃ p ps, d = .agg (p :: ps) ∧ Rd a x.1 p ∧ Rd b x.2 (.agg ps)

theorem list_of {α : Type} (d : α) (p : Nat → α → Prop) : ∀ n, (∀ i, i < n → ∃ x, p i x) → ∃ l : List α, l.length = n ∧ ∀ i, i < n → p i (l.getD i d)
  | 0, _ => ⟨[], rfl, fun i hi => absurd hi (by omega)⟩
  | n + 1, h => by
    obtain ⟨l, hl, hp⟩ := list_of d p n fun i hi => h i (by omega)
    obtain ⟨x, hx⟩ := h n (by omega)
    refine ⟨l ++ [x], by simp [hl], fun i hi => ?_⟩
    by_cases hin : i < n
    · have : (l ++ [x]).getD i d = l.getD i d := by simp [List.getD_eq_getElem?_getD, List.getElem?_append_left (show i < l.length by omega)]
      rw [this]
      exact hp i hin
    · have : i = n := by omega
      subst this
      have : (l ++ [x]).getD i d = x := by simp [List.getD_eq_getElem?_getD, ← hl]
      rw [this]
      exact hx

section
variable {H : Type} {enc : TypeId × Value → H} {P : Program} {w : World} {base : Nat} {spare : Nat → Bool} {held : Bool} {Γ : Tab}

theorem cellsOf_eq (hΓ : TabOk P Γ) {T : Nat} {ti : TI} (hf : find Γ T = some ti) : P.cellsOf T = ti.ty.size := by
  obtain ⟨i, z, cs, hi, hs, _⟩ := (hΓ T ti hf).info
  simp [Program.cellsOf, hi, hs]

theorem cells_plain {a : Addr} {n : Nat} {cs : List Value} (h : w.cells? base a n = some cs) (hn : 0 < n) : a.spot = none ∧ a.block < w.heap.size ∧ cs.length = n ∧ CellsAt w a.block a.off cs := by
  obtain ⟨h1, h2, h3⟩ := World.cells?_some h
  have h0 : ∃ v, w.cell? a = some v := by
    have h4 := h3 0 hn
    have e0 : a.add 0 = a := by simp [Addr.add]
    rw [e0] at h4
    exact ⟨cs[0], by rw [h4]; exact List.getElem?_eq_getElem (by omega)⟩
  obtain ⟨v, hv⟩ := h0
  have hsp : a.spot = none := by
    unfold World.cell? at hv
    split at hv
    · split at hv
      · simp at hv
      · rename_i hs
        cases hq : a.spot with
        | none => rfl
        | some s => rw [hq] at hs; simp at hs
    · simp at hv
  refine ⟨hsp, ?_, h2, fun j u hj => ?_⟩
  · unfold World.cell? at hv
    split at hv
    · rename_i hh
      exact heap_lt hh
    · simp at hv
  · have hjn : j < n := by
      have := (List.getElem?_eq_some_iff.1 hj).1
      omega
    have := h3 j hjn
    rw [hj, addr_eta hsp, addr_add] at this
    exact this

theorem trod_val (hΓ : TabOk P Γ) (hD : Deep P Γ) : ∀ (fuel : Nat) (T : Nat) (ti : TI) (cs : List Value) (d : DataW H) (ps : List MemPlace), find Γ T = some ti → DataW.trod enc P w base spare held fuel T cs = some (d, ps) →
    ∃ x : ti.ty.den, Val w (fun b => b < w.heap.size) ti.ty x cs ∧ Rd ti.ty x d
  | 0, T, ti, cs, d, ps, hf, h => by simp [DataW.trod] at h
  | fuel + 1, T, ti, cs, d, ps, hf, h => by
    have hT := hΓ T ti hf
    cases hag : ti.ty.isAgg with
    | true =>
      have hdeep := hD T ti hf
      unfold tiDeep at hdeep
      rw [hag] at hdeep
      simp only at hdeep
      obtain ⟨sd, hu, _, hst⟩ := hT.under
      rcases hst hag with ⟨fs, rfl, _⟩ | ⟨_, _, rfl, _⟩
      case inr => rw [hu] at hdeep; simp at hdeep
      rw [hu] at hdeep
      simp only at hdeep
      obtain ⟨xs, n, hn, hx, hl, hxl, hfld⟩ := DataW.trod_struct hu h
      obtain rfl : fuel = n := by omega
      simp only [Prod.mk.injEq] at hx
      obtain ⟨rfl, _⟩ := hx
      rw [cellsOf_eq hΓ hf] at hl
      -- the fields, one by one
      have key : ∀ (fl : List Field) (t : Ty) (off : Nat) (ys : List (DataW H × List MemPlace)), fieldTys Γ fl t off = true → off + t.size = cs.length → ys.length = fl.length →
          (∀ (i : Nat) (f : Field), fl[i]? = some f → DataW.trod enc P w base spare held fuel f.type ((cs.drop f.offset).take (P.cellsOf f.type)) = ys[i]?) → t.isAgg = true →
          ∃ x : t.den, Val w (fun b => b < w.heap.size) t x (cs.drop off) ∧ Rd t x (.agg (ys.map (·.1))) := by
        intro fl
        induction fl with
        | nil =>
          intro t off ys hft hsz hyl _ _
          cases t <;> simp [fieldTys] at hft
          have : ys = [] := List.eq_nil_of_length_eq_zero (by simpa using hyl)
          subst this
          refine ⟨(), ?_, rfl⟩
          simp only [Val]
          simp only [Ty.size, Nat.add_zero] at hsz
          rw [hsz, List.drop_length]
        | cons f fl ih =>
          intro t off ys hft hsz hyl hfl _
          obtain ⟨a, t2, rfl⟩ : ∃ a t2, t = .pair a t2 := by
            cases t <;> first | (simp [fieldTys] at hft; done) | exact ⟨_, _, rfl⟩
          simp only [fieldTys, Bool.and_eq_true] at hft
          obtain ⟨⟨h1, h2⟩, h3⟩ := hft
          have h1 := Nat.eq_of_beq_eq_true h1
          cases hff : find Γ f.type with
          | none => simp [hff] at h2
          | some tf =>
            simp only [hff] at h2
            have hta := tyEq_eq h2
            cases ys with
            | nil => simp at hyl
            | cons y ys =>
              have h0 := hfl 0 f rfl
              simp only [List.getElem?_cons_zero] at h0
              obtain ⟨dy, py⟩ := y
              obtain ⟨x1, v1, r1⟩ := trod_val hΓ hD fuel f.type tf _ dy py hff h0
              rw [cellsOf_eq hΓ hff] at v1
              have hb : t2.isAgg = true := by
                cases fl with
                | nil => cases t2 <;> simp [fieldTys] at h3 <;> rfl
                | cons g gl => cases t2 <;> simp [fieldTys] at h3 <;> rfl
              obtain ⟨x2, v2, r2⟩ := ih t2 (off + a.size) ys h3 (by simp only [Ty.size] at hsz; omega) (by simpa using hyl) (fun i g hg => by
                have := hfl (i + 1) g (by simpa using hg)
                simpa using this) hb
              subst hta
              refine ⟨(x1, x2), ⟨(cs.drop off).take tf.ty.size, cs.drop (off + tf.ty.size), ?_, ?_, v2⟩, dy, ys.map (·.1), rfl, r1, r2⟩
              · rw [← List.drop_drop, List.take_append_drop]
              · rw [h1] at v1
                exact v1
      obtain ⟨x, hv, hr⟩ := key fs.toList ti.ty 0 xs hdeep (by rw [hl, Nat.zero_add]) (by simpa using hxl) (fun i f hfi => hfld i f (by simpa using hfi)) hag
      exact ⟨x, by simpa using hv, hr⟩
    | false =>
      cases hty : ti.ty with
      | pair a b => rw [hty] at hag; simp [Ty.isAgg] at hag
      | unit => rw [hty] at hag; simp [Ty.isAgg] at hag
      | any =>
        have hdeep := hD T ti hf
        unfold tiDeep at hdeep
        rw [hty] at hdeep
        simp [Ty.isAgg] at hdeep
      | osl U t =>
        have hdeep := hD T ti hf
        unfold tiDeep at hdeep
        rw [hty] at hdeep
        simp [Ty.isAgg] at hdeep
      | mp k v =>
        have hdeep := hD T ti hf
        unfold tiDeep at hdeep
        rw [hty] at hdeep
        simp [Ty.isAgg] at hdeep
      | omp k v =>
        have hdeep := hD T ti hf
        unfold tiDeep at hdeep
        rw [hty] at hdeep
        simp [Ty.isAgg] at hdeep
      | bool =>
        obtain ⟨b, e1, e2⟩ := DataW.trod_bool (hT.bool hty) h
        simp only [Prod.mk.injEq] at e2
        obtain ⟨rfl, _⟩ := e2
        exact ⟨b, e1, rfl⟩
      | int k =>
        obtain ⟨n, e1, e2, hw⟩ := DataW.trod_int (hT.int k hty) h
        simp only [Prod.mk.injEq] at e2
        obtain ⟨rfl, _⟩ := e2
        exact ⟨n, e1, rfl, hw⟩
      | str =>
        obtain ⟨s, e1, e2, hs⟩ := DataW.trod_string (hT.str hty) h
        simp only [Prod.mk.injEq] at e2
        obtain ⟨rfl, _⟩ := e2
        exact ⟨s.data.toList, ⟨s, e1, rfl⟩, rfl, by rw [← ba_size]; exact hs⟩
      | sl t =>
        obtain ⟨hu, hpos, tj, hj, htj⟩ := hT.sl t (.inl hty)
        have hcell := cellsOf_eq hΓ hj
        rw [htj] at hcell
        rcases DataW.trod_slice hu h with ⟨e1, e2⟩ | ⟨a, len, cap, els, rest, n, hn, e1, e2, hb, hlc, hcm, hlen, hget, _⟩
        · simp only [Prod.mk.injEq] at e2
          obtain ⟨rfl, _⟩ := e2
          exact ⟨[], ⟨none, 0, 0, e1, rfl, Nat.le_refl _, fun j hj => absurd hj (by simp)⟩, .inl ⟨rfl, rfl⟩⟩
        · obtain rfl : fuel = n := by omega
          simp only [Prod.mk.injEq] at e2
          obtain ⟨rfl, _⟩ := e2
          have some_of : ∀ i, i < len → ∃ c0, w.cells? base (a.add (i * P.cellsOf ti.elem)) (P.cellsOf ti.elem) = some c0 ∧ DataW.trod enc P w base spare held fuel ti.elem c0 = els[i]? := by
            intro i hi
            have hg := hget i hi
            cases hq : w.cells? base (a.add (i * P.cellsOf ti.elem)) (P.cellsOf ti.elem) with
            | none =>
              rw [hq] at hg
              simp only [Option.bind_none] at hg
              rw [List.getElem?_eq_getElem (by omega)] at hg
              cases hg
            | some c0 =>
              rw [hq] at hg
              exact ⟨c0, rfl, hg⟩
          have hel : ∀ i, i < len → ∃ y : t.den, ∃ cs' dy py, a.spot = none ∧ a.block < w.heap.size ∧ els[i]? = some (dy, py) ∧ CellsAt w a.block (a.off + i * t.size) cs' ∧ Val w (fun b => b < w.heap.size) t y cs' ∧ Rd t y dy := by
            intro i hi
            obtain ⟨cs', hcs, hg⟩ := some_of i hi
            have hgi : els[i]? = some els[i] := List.getElem?_eq_getElem (by omega)
            rw [hgi] at hg
            obtain ⟨y, v1, r1⟩ := trod_val hΓ hD fuel ti.elem tj cs' els[i].1 els[i].2 hj hg
            obtain ⟨g1, g2, g3, g4⟩ := cells_plain hcs (by rw [hcell]; exact hpos)
            have hsp : a.spot = none := by
              obtain ⟨c0, hq, _⟩ := some_of 0 (by omega)
              have := (cells_plain hq (by rw [hcell]; exact hpos)).1
              simpa [Addr.add] using this
            subst htj
            rw [addr_eta hsp, addr_add] at g2 g4
            simp only at g2 g4
            rw [hcell] at g4
            exact ⟨y, cs', els[i].1, els[i].2, hsp, g2, hgi, g4, v1, r1⟩
          obtain ⟨ys, hyl, hy⟩ := list_of t.zero (fun i y => ∃ cs' dy py, a.spot = none ∧ a.block < w.heap.size ∧ els[i]? = some (dy, py) ∧ CellsAt w a.block (a.off + i * t.size) cs' ∧ Val w (fun b => b < w.heap.size) t y cs' ∧ Rd t y dy) len hel
          refine ⟨ys, ⟨some a, len, cap, e1, hyl, hlc, fun j hj => ?_⟩, .inr ⟨_, _, rfl, by simp [hlen, hyl], by omega, fun i e he => ?_⟩⟩
          · obtain ⟨cs', dy, py, g1, g2, g3, g4, g5, g6⟩ := hy j (by omega)
            exact ⟨a, cs', rfl, g1, g2, g4, g5⟩
          · have hi : i < len := by
              have := (List.getElem?_eq_some_iff.1 he).1
              simp at this
              omega
            obtain ⟨cs', dy, py, g1, g2, g3, g4, g5, g6⟩ := hy i hi
            rw [List.getElem?_map, g3] at he
            simp only [Option.map_some, Option.some.injEq] at he
            subst he
            exact g6
end
end Go.Ev
end
