/- Conversions; append. -/
import Derived.Test.YticlnmiakaelkaaEvOp8
import Derived.Lib.ConvBytes
import Derived.Lib.MinMax
import Derived.Laws.BytesArg
set_option linter.unusedSimpArgs false
set_option linter.unusedVariables false
namespace Go.Ev
open Go.RowKit (Below)

section
variable {P : Program} {w0 : World} {G0 : Nat → Prop} {N : Nat} {F : List (Nat × Obj)} {m : St} {e : Env} {a : Act} {tm : Array Value} {Γ : Tab} {ρ : Type} {os : List (Nat × Obj)}

theorem source_src (hR : Rel w0 G0 N F m e tm) {x : V} {v : Value} {p : Sigma fun t : Ty => List t.den} (h : source e x = some p) (hx : Lv m x v) : Src m p.1 p.2 v := by
  unfold source at h
  cases x with
  | sl t xs =>
    simp only [Option.some.injEq] at h
    subst h
    exact Src.of_val hx
  | row id =>
    obtain ⟨hid, rfl, _⟩ := hx
    simp only at h
    cases ho : e.obj id with
    | none => simp [ho] at h
    | some o =>
      have hob := (hR.obj id _ ho).2
      cases o with
      | var vs => simp [ho] at h
      | row T t xs =>
        simp only [ho, Option.some.injEq] at h
        subst h
        exact Src.of_row hob
      | frow t xs =>
        simp only [ho, Option.some.injEq] at h
        subst h
        exact Src.of_val hob
  | _ => simp at h

theorem Src.cast {t u : Ty} {xs : List t.den} {ys : List u.den} {v : Value} (h : cast? (.sl t) (.sl u) xs = some ys) (hs : Src m t xs v) : Src m u ys v := by
  obtain ⟨e, h⟩ := cast?_some h
  cases e
  subst h
  exact hs

theorem bytes_none (w : World) (src e : TypeId) (hs : P.underlying src = some (.slice e)) (he : P.underlying e = some (.int .u8)) (p : Option Addr) (c : Nat) :
    ∀ dst, P.underlying dst = some .string → (convert src dst (.slice p 0 c)).run P w = .ok (.string ByteArray.empty) w := by
  intro dst hd
  rw [run_convert_bytes_string w src dst e _ 0 c hs he hd]
  cases p <;> simp [Conv.bytesToString, loadCells]
  all_goals rfl

/-- the bytes of a slice -/
theorem bytes_back {ys : List Int} {v : Value} (hs : Src m (.int .u8) ys v) {src dst e : TypeId} (h1 : P.underlying src = some (.slice e)) (h2 : P.underlying e = some (.int .u8)) (h3 : P.underlying dst = some .string) :
    ∃ s : ByteArray, (convert src dst v).run P m.w = .ok (.string s) m.w ∧ s.data.toList = (ys.map fun (n : Int) => UInt8.ofNat n.toNat) := by
  obtain ⟨A, c, news, rfl, hl, ha, hv, _⟩ := hs
  simp only [Ty.size, Nat.mul_one] at hl
  by_cases h0 : 0 < ys.length
  · obtain ⟨ad, rfl, hc⟩ := ha h0
    have hcell : ∀ i, i < ys.length → m.w.cell? (ad.add i) = some (.int .u8 (ys.getD i 0)) := by
      intro i hi
      have hn : i < news.length := by omega
      have := hv i hi
      simp only [Ty.size, Nat.mul_one, Val] at this
      have hg : news[i]? = some (.int .u8 (ys.getD i 0)) := by
        have e1 : ((news.drop i).take 1)[0]? = some (.int .u8 (ys.getD i 0)) := by
          rw [this]; rfl
        simpa using e1
      exact hc i _ hg
    have hload : (loadCells ad ys.length).run P m.w = .ok (ys.map (Value.int .u8)).toArray m.w := by
      have := run_loadCells_list (P := P) m.w ad (ys.map (Value.int .u8)) (fun j v hj => by
        have hjl : j < ys.length := by
          rcases Nat.lt_or_ge j ys.length with h | h
          · exact h
          · simp [List.getElem?_eq_none (show (ys.map (Value.int .u8)).length ≤ j by simpa using h)] at hj
        rw [hcell j hjl]
        simp [List.getElem?_eq_getElem hjl] at hj
        subst hj
        simp [List.getD, List.getElem?_eq_getElem hjl])
      simpa using this
    refine ⟨_, by rw [run_convert_bytes_string m.w src dst e _ ys.length c h1 h2 h3, run_bytesToString m.w _ ys.length c ys hload, foldl_push_bytes], ?_⟩
    simp [ByteArray.empty, ByteArray.emptyWithCapacity]
    rfl
  · have : ys = [] := List.eq_nil_of_length_eq_zero (by omega)
    subst this
    exact ⟨ByteArray.empty, bytes_none m.w src e h1 h2 A c dst h3, rfl⟩

/-- A string's bytes in a new row, that nobody writes. -/
theorem bytes_of (hR : Rel w0 G0 N F m e tm) {src dst el : TypeId} {u : TypeDesc} (s : ByteArray) (h1 : P.underlying src = some u) (h2 : P.underlying dst = some (.slice el)) (h3 : P.underlying el = some (.int .u8)) :
    ∃ m' v, (convert src dst (.string s)).run P m.w = .ok v m'.w ∧ m.le m' ∧ m'.D = m.D ∧ Rel w0 G0 N F m' e tm ∧ Lv m' (.sl (.int .u8) (s.data.toList.map fun b => ((b.toNat : Nat) : Int))) v := by
  have hrun := Lib.run_convert_string_bytes (P := P) m.w src dst el s h1 h2 h3
  have hold : ∀ b, b < m.w.heap.size → (Lib.bytesWorld m.w el s).heap[b]? = m.w.heap[b]? := fun b hb => Lib.bytesWorld_at_old _ _ _ _ hb
  have hsz := Lib.bytesWorld_size m.w el s
  let m' : St := { m with w := Lib.bytesWorld m.w el s, G := fun b => m.G b ∨ b = m.w.heap.size, H := fun b => m.H b ∨ b = m.w.heap.size }
  have hle : m.le m' := ⟨fun b hb => ⟨.inl hb, hold b (hR.ok.liveG b hb)⟩, fun b hb => ⟨.inl hb, hold b (hR.ok.liveH b hb)⟩, fun _ h => h, fun _ _ => rfl, fun _ _ => rfl⟩
  have hbase : Below w0.heap.size w0 m'.w := by
    refine hR.ok.base.trans ⟨rfl, rfl, rfl, by simp only [m']; omega, fun k hk => ?_⟩
    exact hold k (Nat.lt_of_lt_of_le hk hR.ok.base.size)
  have hG : ∀ b, (m.G b ∨ b = m.w.heap.size) → (m.G b ∨ m.w.heap.size ≤ b) ∧ b < m'.w.heap.size := by
    intro b hb
    rcases hb with hb | hb
    · have := hR.ok.liveG b hb
      exact ⟨.inl hb, by simp only [m']; omega⟩
    · exact ⟨.inr (by omega), by simp only [m']; omega⟩
  have hH : ∀ b, (m.H b ∨ b = m.w.heap.size) → (m.H b ∨ m.w.heap.size ≤ b) ∧ b < m'.w.heap.size := by
    intro b hb
    rcases hb with hb | hb
    · have := hR.ok.liveH b hb
      exact ⟨.inl hb, by simp only [m']; omega⟩
    · exact ⟨.inr (by omega), by simp only [m']; omega⟩
  refine ⟨m', _, hrun, hle, rfl, hR.world hle (hR.ok.world hle hbase (fun i b hb => hold b (hR.ok.out i b hb).2.2.1) hG hH (by simp only [m']; omega) fun b hb => hb.imp (hR.ok.gh b) id), ?_⟩
  have hbs := ba_size s
  refine ⟨_, _, _, rfl, by rw [List.length_map, hbs], grownCap_ge m.w _ 0 el, fun j hj => ?_⟩
  rw [List.length_map] at hj
  refine ⟨_, [.int .u8 ((s.data.toList.getD j 0).toNat : Nat)], rfl, rfl, .inr rfl, ?_, ?_⟩
  · intro q v hq
    cases q with
    | zero =>
      simp only [List.getElem?_cons_zero, Option.some.injEq] at hq
      subst hq
      have := Lib.bytesWorld_cell m.w el s j (by omega)
      simpa [Ty.size] using this
    | succ q => simp at hq
  · have : (s.data.toList.map fun b => ((b.toNat : Nat) : Int)).getD j 0 = ((s.data.toList.getD j 0).toNat : Nat) := by
      simp [List.getD_eq_getElem?_getD, List.getElem?_eq_getElem hj]
    simp only [Val, Ty.zero]
    rw [this]

theorem conv_sound (hΓ : TabOk P Γ) (hR : Rel w0 G0 N F m e tm) {src dst : Nat} {tj ti : TI} (hs : find Γ src = some tj) (hd : find Γ dst = some ti) {x : V} {v : Value} {K : SV → Env → Option ρ} {r : ρ} (h : evConv tj.ty ti.ty x e K = some r) (hx : Lv m x v) :
    ∃ m' sv z, (convert src dst v).run P m.w = .ok z m'.w ∧ Stp m e m' e ∧ m'.D = m.D ∧ Rel w0 G0 N F m' e tm ∧ Sv m' sv z ∧ K sv e = some r := by
  have hS := hΓ _ _ hs
  have hD := hΓ _ _ hd
  obtain ⟨sd, hsd, _⟩ := hS.under
  unfold evConv at h
  cases hdt : ti.ty with
  | int k =>
    rw [hdt] at h
    cases x with
    | i j n =>
      simp only [Lv] at hx
      subst hx
      have hk := hD.int k hdt
      refine ⟨m, .one (.i k (k.wrap n)), .int k (k.wrap n), ?_, .refl m e, rfl, hR, rfl, h⟩
      simp [convert, run_underlying hsd, run_underlying hk, Conv.intToInt]
    | _ => simp at h
  | str =>
    rw [hdt] at h
    have hk := hD.str hdt
    cases hst : tj.ty with
    | str =>
      rw [hst] at h
      cases x with
      | s y =>
        obtain ⟨s, rfl, hy⟩ := hx
        have hk' := hS.str hst
        refine ⟨m, .one (.s y), .string s, ?_, .refl m e, rfl, hR, ⟨s, rfl, hy⟩, h⟩
        simp [convert, run_underlying hk', run_underlying hk]
      | _ => simp at h
    | sl t =>
      rw [hst] at h
      cases t with
      | int k =>
        cases k with
        | u8 =>
          simp only at h
          obtain ⟨hu, _, te, hte, htt⟩ := hS.sl _ hst
          have he := (hΓ _ _ hte).int .u8 htt
          by_cases hn : x = .nil
          · subst hn
            simp only [Lv] at hx
            subst hx
            simp only at h
            exact ⟨m, .one (.s []), _, run_convert_bytes_nil m.w src _ hu he 0 0 dst hk, .refl m e, rfl, hR, ⟨_, rfl, rfl⟩, h⟩
          · have h' : (match source e x with
                | some ⟨t, xs⟩ => match cast? (.sl t) (.sl (.int .u8)) xs with
                  | some ys => K (.one (.s (ys.map fun (n : Int) => UInt8.ofNat n.toNat))) e
                  | none => none
                | none => none) = some r := by
              cases x <;> first | exact h | exact absurd rfl hn
            cases hsrc : source e x with
            | none => simp [hsrc] at h'
            | some p =>
              obtain ⟨t, xs⟩ := p
              simp only [hsrc] at h'
              cases hc : cast? (.sl t) (.sl (.int .u8)) xs with
              | none => simp [hc] at h'
              | some ys =>
                simp only [hc] at h'
                have hsr := Src.cast hc (source_src hR hsrc hx)
                obtain ⟨s, g1, g2⟩ := bytes_back (P := P) hsr hu he hk
                exact ⟨m, .one (.s (ys.map fun (n : Int) => UInt8.ofNat n.toNat)), _, g1, .refl m e, rfl, hR, ⟨s, rfl, g2⟩, h'⟩
        | _ => simp at h
      | _ => simp at h
    | _ => rw [hst] at h; simp at h
  | sl t =>
    rw [hdt] at h
    cases t with
    | int k =>
      cases k with
      | u8 =>
        simp only at h
        cases hst : tj.ty with
        | str =>
          rw [hst] at h
          cases x with
          | s y =>
            obtain ⟨s, rfl, rfl⟩ := hx
            obtain ⟨hu, _, te, hte, htt⟩ := hD.sl _ hdt
            have he := (hΓ _ _ hte).int .u8 htt
            obtain ⟨m', v, g1, g2, gD, g3, g4⟩ := bytes_of (P := P) hR s hsd hu he
            refine ⟨m', .one (.sl (.int .u8) (s.data.toList.map fun b => ((b.toNat : Nat) : Int))), v, g1, .same g2 gD rfl, gD, g3, ?_, h⟩
            exact g4
          | _ => simp at h
        | _ => rw [hst] at h; simp at h
      | _ => simp at h
    | _ => simp at h
  | _ => rw [hdt] at h; simp at h

theorem evAppend_sound (hΓ : TabOk P Γ) (hR : Rel w0 G0 N F m e tm) {T : Nat} {s x : V} {sv xv : Value} {ty : TypeId} {K : SV → Env → Option ρ} {r : ρ} (h : evAppend Γ T s x e K = some r) (hs : Lv m s sv) (hx : Lv m x xv) (hfr : ¬ m.D e.next) :
    ∃ m' e' u z, (Builtin.append_ #[T, T] ty #[sv, xv]).run P m.w = .ok z m'.w ∧ Stp m e m' e' ∧ Rel w0 G0 N F m' e' tm ∧ Sv m' u z ∧ K u e' = some r := by
  unfold evAppend at h
  cases hf : find Γ T with
  | none => simp [hf] at h
  | some ti =>
    simp only [hf] at h
    cases hj : find Γ ti.elem with
    | none => simp [hj] at h
    | some tj =>
      simp only [hj] at h
      cases ht : tyEq ti.ty (.sl tj.ty) with
      | false => simp [ht] at h
      | true =>
        have ht' := tyEq_eq ht
        cases hsm : sameRow s x with
        | true => simp [ht, hsm] at h
        | false =>
          simp only [ht, hsm] at h
          cases hsrc : source e x with
          | none => simp [hsrc] at h
          | some p =>
            obtain ⟨t, xs⟩ := p
            simp only [hsrc] at h
            cases hc : cast? (.sl t) (.sl tj.ty) xs with
            | none => simp [hc] at h
            | some ys =>
              simp only [hc] at h
              have hsr := Src.cast hc (source_src hR hsrc hx)
              unfold evAppendTo at h
              cases s with
              | nil =>
                simp only [Lv] at hs
                subst hs
                simp only at h
                obtain ⟨hcap, h⟩ := chk_dec h
                obtain ⟨m', g1, g2, g3, g4, g5⟩ := append_sound (P := P) hΓ hR.ok hf ht' (xs := []) (ty := ty) (.inl ⟨rfl, rfl⟩) hsr (by simpa using hcap) (by intro a n c e; simp at e) hfr
                exact ⟨m', _, .one (.row e.next), _, g1, .new g2 g3 rfl, hR.push hfr g2 _ g5, ⟨(g3 _).2 (.inr rfl), rfl, g4⟩, h⟩
              | row id =>
                obtain ⟨hid, rfl, _⟩ := hs
                simp only at h
                cases ho : e.obj id with
                | none => simp [ho] at h
                | some o =>
                  cases o with
                  | row U u zs =>
                    simp only [ho] at h
                    have hob := (hR.obj id _ ho).2
                    cases hU : Nat.beq U ti.elem with
                    | false => simp [hU] at h
                    | true =>
                      have hU' := Nat.eq_of_beq_eq_true hU
                      subst hU'
                      cases hc2 : cast? (.sl u) (.sl tj.ty) zs with
                      | none => simp [hU, hc2] at h
                      | some ws =>
                        simp only [hU, hc2] at h
                        obtain ⟨hcap, h⟩ := chk_dec h
                        have hrow : RowAt m.w m.G ti.elem tj.ty ws (m.ν id) := by
                          obtain ⟨e1, e2⟩ := cast?_some hc2
                          cases e1
                          subst e2
                          exact hob
                        have ho' : find e.objs id = some (.row ti.elem u zs) := ho
                        have hbk : ∀ ad n c, m.ν id = .slice (some ad) n c → blk (e.objs ++ F) m id = some ad.block := by
                          intro ad n c e1
                          refine blk_left ?_
                          simp [blk, ho', e1, Value.ownBlock]
                        obtain ⟨m', g1, g2, g3, g4, g5⟩ := append_sound (P := P) hΓ (hR.ok.erase id) hf ht' (ty := ty) hrow hsr hcap (by
                          intro ad n c e1
                          have hb := hbk ad n c e1
                          obtain ⟨o1, o2, o3, o4⟩ := hR.ok.out id _ hb
                          refine ⟨o4, o3, o1, o2, fun i hi => ?_⟩
                          unfold blk at hi
                          rw [find_erase (α := Nat)] at hi
                          by_cases hii : id = i
                          · rw [if_pos hii] at hi; simp at hi
                          · rw [if_neg hii] at hi
                            exact hii (hR.ok.inj id i _ hb hi)) hfr
                        have hdj : ∀ i o, find (erase e.objs id) i = some o → find F i = none := fun i o hf => by
                          rw [find_erase (α := Nat)] at hf
                          by_cases hii : id = i
                          · rw [if_pos hii] at hf; simp at hf
                          · rw [if_neg hii] at hf; exact hR.disj i o hf
                        have hR2 : Rel w0 G0 N F m ⟨e.slots, erase e.objs id, e.next⟩ tm := hR.objs (.refl m) _ _ (ObjsOk.congr (hR.ok.erase id) (erase_left (hR.disj _ _ ho'))) hdj
                        refine ⟨m', _, .one (.row e.next), _, g1, .new g2 g3 rfl, hR2.push hfr g2 _ (ObjsOk.congr g5 fun i => ?_), ⟨(g3 _).2 (.inr rfl), rfl, g4⟩, h⟩
                        rw [find_cons, find_cons, erase_left (hR.disj _ _ ho')]
                  | _ => simp [ho] at h
              | _ => simp at h
end
end Go.Ev
