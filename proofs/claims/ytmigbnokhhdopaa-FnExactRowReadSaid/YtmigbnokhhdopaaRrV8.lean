import Derived.Test.YtmigbnokhhdopaaRrV7
set_option linter.unusedSimpArgs false
set_option linter.unusedVariables false
set_option maxRecDepth 100000
namespace Go.Ev.T1
open Go Go.Proofs
theorem spec2 {r : List UInt8} (hl : (2 :: r).length ≤ 4000) (hk : ∀ v',Begins (2 :: r) v' → v'.1 = 1) : SN (2 :: r):=by
 have hlen : (0 : Int) < ((2 :: r).length : Int):=by simp <;> omega
 have hx : ∀ v',Begins (2 :: r) v' → ∃ c t,r = c :: t ∧ c.toNat < 2:=fun v' hv=>by
  have k:=hk v' hv
  obtain ⟨g1,g2,g3⟩:=vok1 hv.1 k
  obtain ⟨_,q,e⟩:=hv
  rw [enc1 k] at e
  refine ⟨UInt8.ofNat v'.2.1.toNat,q,by simpa using e, ?_⟩
  rw [UInt8.toNat_ofNat']
  omega
 cases r with
 | nil =>
  refine sn_no (w:=ZV) ?_ fun v' hv=>by obtain ⟨c,t,e,_⟩:=hx v' hv; exact absurd e (by simp)
  unfold F_u28f
  rw [y2q (by omega),y2q hlen]
  rfl
 | cons c t =>
  have h1 : (((2 :: c :: t).length : Nat) : Int) > 1:=by simp <;> omega
  by_cases hc : ((c.toNat : Nat) : Int) < 2
  ·have hF : F_u28f (2 :: c :: t) = bnd (F_u22f (((c.toNat : Nat) : Int) == 1)) (fun y1=>some (y1,2)):=by
    unfold F_u28f
    rw [y2q (by omega),y2q hlen]
    show br (decide (((2 :: c :: t).length : Int) > 1)) _ _ = _
    rw [y2q h1,y2q (by omega),y2q (by omega)]
    show br (decide (((c.toNat : Nat) : Int) < 2)) _ _ = _
    rw [y2q hc,y2q (by omega),y2q (by omega)]
    rfl
   by_cases hc1 : ((c.toNat : Nat) : Int) = 1
   ·have : c = 1:=UInt8.toNat_inj.1 (by show _ = 1; omega)
    subst this
    exact sn_yes (w:=((1 : Int),(1 : Int),(0 : Int),([] : List UInt8),())) (n:=2) hF ⟨.inr (.inl ⟨rfl,by decide,by decide,rfl,rfl⟩),t,rfl⟩ rfl
   ·have : c = 0:=UInt8.toNat_inj.1 (by show _ = 0; omega)
    subst this
    exact sn_yes (w:=((1 : Int),(0 : Int),(0 : Int),([] : List UInt8),())) (n:=2) hF ⟨.inr (.inl ⟨rfl,by decide,by decide,rfl,rfl⟩),t,rfl⟩ rfl
  ·refine sn_no (w:=ZV) ?_ fun v' hv=>?_
   ·unfold F_u28f
    rw [y2q (by omega),y2q hlen]
    show br (decide (((2 :: c :: t).length : Int) > 1)) _ _ = _
    rw [y2q h1,y2q (by omega),y2q (by omega)]
    show br (decide (((c.toNat : Nat) : Int) < 2)) _ _ = _
    rw [y15q hc]
    rfl
   ·obtain ⟨c',t',e,g⟩:=hx v' hv
    obtain ⟨rfl,rfl⟩ : c = c' ∧ t = t':=by simpa using e
    omega
theorem specStep (b : UInt8) (r : List UInt8) (hl : (b :: r).length ≤ 4000) : SN (b :: r):=by
 have hlen : (0 : Int) < ((b :: r).length : Int):=by simp <;> omega
 have hh:=fun v' (hv : Begins (b :: r) v')=>y63q hv
 by_cases b1 : b = 1
 ·subst b1
  refine sn_yes (w:=ZV) (n:=1) ?_ ⟨.inl ⟨rfl,rfl,rfl,rfl⟩,r,rfl⟩ rfl
  unfold F_u28f
  rw [y2q (by omega),y2q hlen]
  rfl
 by_cases b2 : b = 2
 ·subst b2
  exact spec2 hl fun v' hv=>by rcases hh v' hv with h | h | h | h | h <;> first | exact h.1 | exact absurd h.2 (by decide)
 by_cases b3 : b = 3
 ·subst b3
  exact spec3 hl fun v' hv=>by rcases hh v' hv with h | h | h | h | h <;> first | exact h.1 | exact absurd h.2 (by decide)
 by_cases b4 : b = 4
 ·subst b4
  exact spec4 hl fun v' hv=>by rcases hh v' hv with h | h | h | h | h <;> first | exact h.1 | exact absurd h.2 (by decide)
 by_cases b5 : b = 5
 ·subst b5
  exact spec5 hl fun v' hv=>by rcases hh v' hv with h | h | h | h | h <;> first | exact h.1 | exact absurd h.2 (by decide)
 ·refine sn_no (w:=ZV) ?_ fun v' hv=>?_
  ·have g1 : ¬ ((b.toNat : Nat) : Int) = 1:=fun h=>b1 ((u8n (n:=1) (by omega)).1 h)
   have g2 : ¬ ((b.toNat : Nat) : Int) = 2:=fun h=>b2 ((u8n (n:=2) (by omega)).1 h)
   have g3 : ¬ ((b.toNat : Nat) : Int) = 3:=fun h=>b3 ((u8n (n:=3) (by omega)).1 h)
   have g4 : ¬ ((b.toNat : Nat) : Int) = 4:=fun h=>b4 ((u8n (n:=4) (by omega)).1 h)
   have g5 : ¬ ((b.toNat : Nat) : Int) = 5:=fun h=>b5 ((u8n (n:=5) (by omega)).1 h)
   unfold F_u28f
   rw [y2q (by omega),y2q hlen]
   show br (((b.toNat : Nat) : Int) == 1) _ (br (((b.toNat : Nat) : Int) == 2) _ (br (((b.toNat : Nat) : Int) == 3) _ (br (((b.toNat : Nat) : Int) == 4) _ (br (((b.toNat : Nat) : Int) == 5) _ _)))) = _
   rw [beqF _ _ g1,brFF,beqF _ _ g2,brFF,beqF _ _ g3,brFF,beqF _ _ g4,brFF,beqF _ _ g5,brFF]
   rfl
  ·rcases hh v' hv with h | h | h | h | h
   ·exact b1 h.2
   ·exact b2 h.2
   ·exact b3 h.2
   ·exact b4 h.2
   ·exact b5 h.2
theorem begins_unique {b : UInt8} {r : List UInt8} (hl : (b :: r).length ≤ 4000) {v w : KV} (hv : Begins (b :: r) v) (hw : Begins (b :: r) w) : v = w:=by
 have h:=implStep (acc:=[]) (C:=fun x=>some (.inl x.1)) b r hl (by simp)
 have:=(h.1 v hv).symm.trans (h.1 w hw)
 simpa using this
def Parse (s : List UInt8) (l : List KV) : Prop:=(∀ v ∈ l,VOK v) ∧ s = l.flatMap encV
theorem parse_nil {l : List KV} (h : Parse [] l) : l = []:=by
 cases l with
 | nil=>rfl
 | cons v l =>
  have:=congrArg List.length h.2
  have p:=enc_pos v
  simp at this
  omega
theorem parse_cons {b : UInt8} {r : List UInt8} {l : List KV} (h : Parse (b :: r) l) : ∃ v l',l = v :: l' ∧ Begins (b :: r) v ∧ Parse ((b :: r).drop (encV v).length) l':=by
 cases l with
 | nil=>exact absurd h.2 (by simp)
 | cons v l =>
  have e : b :: r = encV v ++ l.flatMap encV:=by rw [h.2]; simp
  exact ⟨v,l,rfl,⟨h.1 v (by simp),_,e⟩,fun w hw=>h.1 w (by simp [hw]),by rw [e,List.drop_left]⟩
theorem parse_more {s : List UInt8} {v : KV} {l : List KV} (hv : Begins s v) (h : Parse (s.drop (encV v).length) l) : Parse s (v :: l):=by
 obtain ⟨h1,r,e⟩:=hv
 refine ⟨fun w hw=>?_, ?_⟩
 ·rcases List.mem_cons.1 hw with rfl | hw
  ·exact h1
  ·exact h.1 w hw
 ·rw [e,List.drop_left] at h
  rw [e,h.2]
  simp
theorem implLoop : ∀ (f : Nat) (acc : List y0q) (s : List UInt8),s.length < f → s.length ≤ 4000 → acc.length + s.length ≤ 10000 →
  (∀ l,Parse s l → forG B_u49f_l0 f (acc,s) = some (.inl (acc ++ l))) ∧ ((∀ l,¬ Parse s l) → forG B_u49f_l0 f (acc,s) = some (.inr ([],5)))
 | f + 1,acc,[],_,_,_=>⟨fun l h=>by rw [parse_nil h,List.append_nil]; rfl,fun h=>absurd ⟨by simp,rfl⟩ (h [])⟩
 | f + 1,acc,b :: r,hf,hl,ha=>by
  simp only [forG]
  obtain ⟨s1,s2⟩:=implStep (acc:=acc) (C:=forG B_u49f_l0 f) b r hl (by omega)
  by_cases hv : ∃ v,Begins (b :: r) v
  ·obtain ⟨v,hv⟩:=hv
   have hp:=enc_pos v
   have hd : ((b :: r).drop (encV v).length).length + 1 ≤ (b :: r).length:=by simp only [List.length_drop,List.length_cons]; omega
   obtain ⟨i1,i2⟩:=implLoop f (acc ++ [v]) ((b :: r).drop (encV v).length) (by omega) (by omega) (by rw [List.length_append,List.length_singleton]; omega)
   rw [s1 v hv]
   refine ⟨fun l h=>?_,fun h=>i2 fun l hl'=>h (v :: l) (parse_more hv hl')⟩
   obtain ⟨w,l',rfl,hw,hl'⟩:=parse_cons h
   obtain rfl:=begins_unique hl hv hw
   rw [i1 l' hl',List.append_assoc]
   rfl
  ·have hn : ∀ v,¬ Begins (b :: r) v:=fun v h=>hv ⟨v,h⟩
   rw [s2 hn]
   refine ⟨fun l h=>?_,fun _=>rfl⟩
   obtain ⟨w,l',rfl,hw,hl'⟩:=parse_cons h
   exact absurd hw (hn w)
theorem specLoop : ∀ (f : Nat) (acc : List y0q) (s : List UInt8),s.length < f → s.length ≤ 4000 → acc.length ≤ 16 →
  (∀ l,Parse s l → acc.length + l.length ≤ 16 → forG B_u29f_l0 f (s,acc) = some (.inl (acc ++ l))) ∧ ((∀ l,Parse s l → ¬ acc.length + l.length ≤ 16) → forG B_u29f_l0 f (s,acc) = some (.inr ([],5)))
 | f + 1,acc,[],_,_,ha=>⟨fun l h _=>by rw [parse_nil h,List.append_nil]; rfl,fun h=>absurd (show acc.length + ([] : List KV).length ≤ 16 by simpa using ha) (h [] ⟨by simp,rfl⟩)⟩
 | f + 1,acc,b :: r,hf,hl,ha=>by
  simp only [forG]
  have hlen : ((b :: r).length : Int) > 0:=by simp <;> omega
  obtain ⟨w,n,hw,hg,hv⟩:=specStep b r hl
  have hB : ∀ C,B_u29f_l0 (b :: r,acc) C = br ((n : Int) == 0) (some (Sum.inr ([],5))) (br (decide ((acc.length : Int) ≥ 16)) (some (Sum.inr ([],5))) (br (decide (acc.length + [w].length ≤ capN)) (br (decide (0 ≤ (n : Int))) (br (decide ((n : Int) ≤ ((b :: r).length : Int))) (C ((b :: r).drop (Int.toNat n),acc ++ [w])) none) none) none)):=fun C=>by
   unfold B_u29f_l0
   dsimp only
   rw [y2q hlen,hw,y8q]
  rw [hB]
  by_cases hn : n = 0
  ·rw [beqT _ _ (by omega),brTT]
   refine ⟨fun l h=>?_,fun _=>rfl⟩
   obtain ⟨v,l',rfl,hv',hl'⟩:=parse_cons h
   exact absurd hn (hv v hv')
  ·obtain ⟨hb,hnl⟩:=hg hn
   have hgood:=begins_good hb
   have hle:=hgood.2.1
   rw [beqF _ _ (by omega),brFF]
   by_cases h16 : (acc.length : Int) ≥ 16
   ·rw [y2q h16]
    refine ⟨fun l h hc=>?_,fun _=>rfl⟩
    obtain ⟨v,l',rfl,hv',hl'⟩:=parse_cons h
    simp at hc
    omega
   ·rw [y15q h16,y2q (cap_ok (by simp; omega)),y2q (by omega),y2q (by omega),Int.toNat_natCast]
    have hd : ((b :: r).drop n).length + 1 ≤ (b :: r).length:=by simp only [List.length_drop,List.length_cons]; omega
    obtain ⟨i1,i2⟩:=specLoop f (acc ++ [w]) ((b :: r).drop n) (by omega) (by omega) (by rw [List.length_append,List.length_singleton]; omega)
    subst hnl
    refine ⟨fun l h hc=>?_,fun h=>i2 fun l hl' hc=>h (w :: l) (parse_more hb hl') ?_⟩
    ·obtain ⟨v,l',rfl,hv',hl'⟩:=parse_cons h
     obtain rfl:=begins_unique hl hb hv'
     rw [i1 l' hl' (by simp at hc ⊢; omega),List.append_assoc]
     rfl
    ·simp at hc ⊢
     omega
theorem parse_unique {s : List UInt8} (hl : s.length ≤ 4000) {l l' : List KV} (h : Parse s l) (h' : Parse s l') : l = l':=by
 obtain ⟨i1,_⟩:=implLoop (s.length + 1) [] s (by omega) hl (by simp; omega)
 have:=(i1 l h).symm.trans (i1 l' h')
 simpa using this
open Classical in
noncomputable def KVr (s : List UInt8) : List y0q × Int:=if h : s.length ≤ 4000 ∧ ∃ l : List KV,Parse s l ∧ l.length ≤ 16 then (Classical.choose h.2,0) else ([],5)
theorem kvr_pos {s : List UInt8} {l : List KV} (hs : s.length ≤ 4000) (h : Parse s l) (hl : l.length ≤ 16) : KVr s = (l,0):=by
 have hx : s.length ≤ 4000 ∧ ∃ l : List KV,Parse s l ∧ l.length ≤ 16:=⟨hs,l,h,hl⟩
 unfold KVr
 rw [dif_pos hx]
 rw [parse_unique hs (Classical.choose_spec hx.2).1 h]
theorem kvr_neg {s : List UInt8} (h : ¬ (s.length ≤ 4000 ∧ ∃ l : List KV,Parse s l ∧ l.length ≤ 16)) : KVr s = ([],5):=dif_neg h
theorem kvr_cases (s : List UInt8) : (∃ l : List KV,s.length ≤ 4000 ∧ Parse s l ∧ l.length ≤ 16 ∧ KVr s = (l,0)) ∨ KVr s = ([],5):=by
 by_cases h : s.length ≤ 4000 ∧ ∃ l : List KV,Parse s l ∧ l.length ≤ 16
 ·obtain ⟨h1,l,h2,h3⟩:=h
  exact .inl ⟨l,h1,h2,h3,kvr_pos h1 h2 h3⟩
 ·exact .inr (kvr_neg h)
theorem implKV (s : List UInt8) : F_u49f s = some (KVr s):=by
 unfold F_u49f
 by_cases h4 : (s.length : Int) > 4000
 ·rw [y2q h4,kvr_neg (by omega)]
 rw [y15q h4]
 obtain ⟨i1,i2⟩:=implLoop (s.length + 1) [] s (by omega) (by omega) (by simp; omega)
 by_cases hp : ∃ l,Parse s l
 ·obtain ⟨l,hp⟩:=hp
  refine Eq.trans (bnd_eq (i1 l hp)) ?_
  show br (decide ((l.length : Int) > 16)) _ _ = _
  by_cases h16 : (l.length : Int) > 16
  ·rw [y2q h16,kvr_neg]
   rintro ⟨h1,l',h2,h3⟩
   obtain rfl:=parse_unique h1 hp h2
   omega
  ·rw [y15q h16,kvr_pos (by omega) hp (by omega)]
   rfl
 ·refine Eq.trans (bnd_eq (i2 fun l h=>hp ⟨l,h⟩)) ?_
  rw [kvr_neg fun h=>hp ⟨h.2.choose,h.2.choose_spec.1⟩]
  rfl
theorem specKV (s : List UInt8) : F_u29f s = some (KVr s):=by
 unfold F_u29f
 by_cases h4 : (s.length : Int) > 4000
 ·rw [y2q h4,kvr_neg (by omega)]
 rw [y15q h4]
 obtain ⟨i1,i2⟩:=specLoop (s.length + 1) [] s (by omega) (by omega) (by simp)
 by_cases hp : ∃ l : List KV,Parse s l ∧ l.length ≤ 16
 ·obtain ⟨l,hp,h16⟩:=hp
  refine Eq.trans (bnd_eq (i1 l hp (by simpa using h16))) ?_
  rw [kvr_pos (by omega) hp h16]
  rfl
 ·refine Eq.trans (bnd_eq (i2 fun l h hc=>hp ⟨l,h,by simpa using hc⟩)) ?_
  rw [kvr_neg fun h=>hp h.2]
  rfl
end Go.Ev.T1
