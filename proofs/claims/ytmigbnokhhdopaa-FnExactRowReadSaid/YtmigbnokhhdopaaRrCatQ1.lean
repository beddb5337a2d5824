import Derived.Test.YtmigbnokhhdopaaRrF
import Derived.Test.YtmigbnokhhdopaaRrEvG
set_option linter.unusedSimpArgs false
set_option linter.unusedVariables false
set_option maxRecDepth 100000
namespace Go.Ev.T1
open Go Go.Proofs
def words : List (List UInt8):=[[97,108,108],[97,110,100],[97,115],[97,115,99],[98,101,103,105,110],[98,101,116,119,101,101,110],[98,121],[99,97,115,101],[99,97,115,116],[99,111,109,109,105,116],[99,114,101,97,116,101],[99,114,111,115,115],[100,97,121],[100,101,108,101,116,101],[100,101,115,99],[100,105,115,116,105,110,99,116],[100,114,111,112],[101,108,115,101],[101,110,100],[101,120,99,101,112,116],[101,120,105,115,116,115],[101,120,112,108,97,105,110],[102,97,108,115,101],[102,114,111,109],[103,114,111,117,112],[104,97,118,105,110,103],[105,110],[105,110,100,101,120],[105,110,115,101,114,116],[105,110,116,101,114,115,101,99,116],[105,110,116,111],[105,115],[106,111,105,110],[107,101,121],[108,101,102,116],[108,105,109,105,116],[110,111,116],[110,117,108,108],[111,110],[111,114],[111,114,100,101,114],[111,118,101,114],[112,97,114,116,105,116,105,111,110],[112,114,105,109,97,114,121],[114,101,99,117,114,115,105,118,101],[114,111,108,108,98,97,99,107],[115,101,108,101,99,116],[115,101,116],[116,97,98,108,101],[116,104,101,110],[116,114,117,101],[117,110,105,111,110],[117,110,105,113,117,101],[117,112,100,97,116,101],[118,97,108,117,101,115],[118,105,101,119],[119,104,101,110],[119,104,101,114,101],[119,105,116,104],[97,108,116,101,114],[97,100,100],[99,111,108,117,109,110],[108,101,118,101,108],[115,101,114,105,97,108],[115,110,97,112,115,104,111,116],[108,97,116,101,115,116]]
def text (ws : List (List UInt8)) : List UInt8:=ws.flatMap fun w=>w ++ [32]
theorem contains_cons (b : UInt8) (l sub : List UInt8) : Go.Lib.contains (b :: l) sub = (sub.isPrefixOf (b :: l) || Go.Lib.contains l sub):=by
 unfold Go.Lib.contains
 have h:=Go.Lib.index_ge l sub
 simp only [Go.Lib.index]
 by_cases hp : sub.isPrefixOf (b :: l) = true
 ·simp [hp]
 ·simp only [hp,if_false,Bool.false_or]
  by_cases hi : Go.Lib.index l sub = -1
  ·simp [hi]
  ·have hb : (Go.Lib.index l sub == -1) = false:=by simpa using hi
   have e1 : (0 : Int) ≤ Go.Lib.index l sub + 1:=by omega
   have e2 : (0 : Int) ≤ Go.Lib.index l sub:=by omega
   simp [hb,e1,e2]
theorem contains_skip {w : List UInt8} (hw : 32 ∉ w) (l a : List UInt8) : Go.Lib.contains (w ++ 32 :: l) (32 :: a) = Go.Lib.contains (32 :: l) (32 :: a):=by
 induction w with
 | nil=>rfl
 | cons b w ih =>
  rw [List.cons_append,contains_cons,ih (fun h=>hw (List.mem_cons_of_mem _ h))]
  have hb : ¬ (32 : UInt8) = b:=fun e=>hw (e ▸ List.mem_cons_self)
  simp [List.isPrefixOf,hb]
theorem prefix_word : ∀ {a w : List UInt8} (l : List UInt8),32 ∉ a → 32 ∉ w → List.isPrefixOf (a ++ [32]) (w ++ 32 :: l) = decide (a = w)
 | [],[],l,_,_=>by simp [List.isPrefixOf]
 | [],b :: w,l,_,hw=>by
  have hb : ¬ (32 : UInt8) = b:=fun e=>hw (e ▸ List.mem_cons_self)
  simp [List.isPrefixOf,hb]
 | c :: a,[],l,ha,_=>by
  have hb : ¬ c = (32 : UInt8):=fun e=>ha (e ▸ List.mem_cons_self)
  simp [List.isPrefixOf,hb]
 | c :: a,b :: w,l,ha,hw=>by
  have ih:=prefix_word (a:=a) (w:=w) l (fun h=>ha (List.mem_cons_of_mem _ h)) (fun h=>hw (List.mem_cons_of_mem _ h))
  simp only [List.cons_append,List.isPrefixOf,ih]
  by_cases h : c = b
  ·subst h; simp
  ·simp [h]
theorem contains_words {a : List UInt8} (ha : 32 ∉ a) (hne : a ≠ []) : ∀ {ws : List (List UInt8)},(∀ w ∈ ws,32 ∉ w) → Go.Lib.contains (32 :: text ws) (32 :: (a ++ [32])) = decide (a ∈ ws)
 | [],_=>by
  rw [contains_cons]
  have : List.isPrefixOf (32 :: (a ++ [32])) (32 :: text []) = false:=by
   cases a with
   | nil=>exact absurd rfl hne
   | cons c a=>simp [text,List.isPrefixOf]
  rw [this]
  simp [text,Go.Lib.contains,Go.Lib.index]
 | w :: ws,hw=>by
  have ih:=contains_words ha hne fun u hu=>hw u (List.mem_cons_of_mem _ hu)
  have hw0:=hw w List.mem_cons_self
  have e : text (w :: ws) = w ++ 32 :: text ws:=by simp [text]
  rw [contains_cons,e,contains_skip hw0,ih]
  have : List.isPrefixOf (32 :: (a ++ [32])) (32 :: (w ++ 32 :: text ws)) = decide (a = w):=by
   have:=prefix_word (text ws) ha hw0
   simp only [List.isPrefixOf,this]; simp
  rw [this]
  by_cases h : a = w
  ·simp [h]
  ·simp [h]
def chain (a : List UInt8) : List (List UInt8) → Option Bool
 | []=>some false
 | [w]=>br (a == w) (some true) (some false)
 | w :: r=>br (a == w) (br (a == w) (some true) (some false)) (chain a r)
theorem chain_eq (a : List UInt8) : ∀ ws,chain a ws = some (decide (a ∈ ws))
 | []=>by simp [chain]
 | [w]=>by
  simp only [chain]
  by_cases h : a = w
  ·simp [h,br]
  ·have hb : (a == w) = false:=by simpa using h
   simp [h,br,hb]
 | w :: u :: r=>by
  have ih:=chain_eq a (u :: r)
  simp only [chain]
  rw [ih]
  by_cases h : a = w
  ·simp [h,br]
  ·have hb : (a == w) = false:=by simpa using h
   simp [h,br,hb]
theorem reserved (a : List UInt8) : F_u12f a = some (decide (a ∈ words)):=by
 rw [← chain_eq]; rfl
theorem words_text : ([32,97,108,108,32,97,110,100,32,97,115,32,97,115,99,32,98,101,103,105,110,32,98,101,116,119,101,101,110,32,98,121,32,99,97,115,101,32,99,97,115,116,32,99,111,109,109,105,116,32,99,114,101,97,116,101,32,99,114,111,115,115,32,100,97,121,32,100,101,108,101,116,101,32,100,101,115,99,32,100,105,115,116,105,110,99,116,32,100,114,111,112,32,101,108,115,101,32,101,110,100,32,101,120,99,101,112,116,32,101,120,105,115,116,115,32,101,120,112,108,97,105,110,32,102,97,108,115,101,32,102,114,111,109,32,103,114,111,117,112,32,104,97,118,105,110,103,32,105,110,32,105,110,100,101,120,32,105,110,115,101,114,116,32,105,110,116,101,114,115,101,99,116,32,105,110,116,111,32,105,115,32,106,111,105,110,32,107,101,121,32,108,101,102,116,32,108,105,109,105,116,32,110,111,116,32,110,117,108,108,32,111,110,32,111,114,32,111,114,100,101,114,32,111,118,101,114,32,112,97,114,116,105,116,105,111,110,32,112,114,105,109,97,114,121,32,114,101,99,117,114,115,105,118,101,32,114,111,108,108,98,97,99,107,32,115,101,108,101,99,116,32,115,101,116,32,116,97,98,108,101,32,116,104,101,110,32,116,114,117,101,32,117,110,105,111,110,32,117,110,105,113,117,101,32,117,112,100,97,116,101,32,118,97,108,117,101,115,32,118,105,101,119,32,119,104,101,110,32,119,104,101,114,101,32,119,105,116,104,32,97,108,116,101,114,32,97,100,100,32,99,111,108,117,109,110,32,108,101,118,101,108,32,115,101,114,105,97,108,32,115,110,97,112,115,104,111,116,32,108,97,116,101,115,116,32] : List UInt8) = 32 :: text words:=by decide +kernel
theorem words_blank : ∀ w ∈ words,(32 : UInt8) ∉ w:=by decide +kernel
def letter (c : UInt8) : Prop:=(97 ≤ c.toNat ∧ c.toNat ≤ 122) ∨ c.toNat = 95
def digit (c : UInt8) : Prop:=48 ≤ c.toNat ∧ c.toNat ≤ 57
theorem letter_ans (c : UInt8) : Ans (F_u9f ((c.toNat : Nat) : Int)) (some true) (some false) (letter c):=by
 unfold F_u9f
 simp only [y44q]
 refine y21q (y60q (fun h=>y117q fun h2=>y20q) fun h=>y20q) ?_
 unfold letter
 omega
theorem digit_ans (c : UInt8) : Ans (F_u10f ((c.toNat : Nat) : Int)) (some true) (some false) (digit c):=by
 unfold F_u10f
 refine y21q (y32q fun h=>y20q) ?_
 unfold digit
 omega
def Name (a : List UInt8) : Prop:=(∀ i,i < a.length → letter (a.getD i 0) ∨ (0 < i ∧ digit (a.getD i 0))) ∧ a ≠ [] ∧ a.length ≤ 30 ∧ a ∉ words
def shape (a : List UInt8) (i : Nat) : Prop:=letter (a.getD i 0) ∨ (0 < i ∧ digit (a.getD i 0))
theorem shape_ans (a : List UInt8) (hl : a.length ≤ 1048576) : Ans (F_u11f_l0 a 0) (some (.inl a)) (some (.inr false)) (∀ i,i < a.length → shape a i):=by
 unfold F_u11f_l0
 refine y36q (fun i=>(a,((i : Nat) : Int))) a.length (shape a) (fun i C hi hb=>?_) (fun C _=>?_) (by omega)
 ·unfold B_u11f_l0
  simp (disch:=omega) only [y10q,Int.toNat_natCast]
  refine y4q (by omega) (y4q (by omega) (y4q (by omega) ?_))
  refine y21q (ans_bnd_yes (letter_ans _) rfl fun h=>y32q fun h2=>y4q (by omega) (y4q (by omega) (y26q (digit_ans _) rfl rfl))) ?_
  unfold shape
  simp
 ·unfold B_u11f_l0
  exact y15q (by simp) _ _
theorem specName (a : List UInt8) (hl : a.length ≤ 1048576) : Ans (F_u13f a) (some true) (some false) (Name a):=by
 unfold F_u13f
 rw [reserved]
 simp only [y8q]
 refine y21q (y13q (a:=true) (b:=false) (P:=(∀ i,i < a.length → shape a i) ∧ (a.length : Int) > 0 ∧ (a.length : Int) ≤ 30) ?_ rfl fun _=>ans_ndecide) ?_
 ·unfold F_u11f
  exact y13q (shape_ans a hl) rfl fun _=>y32q fun _=>y20q
 ·unfold Name shape
  constructor
  ·rintro ⟨⟨h1,h2,h3⟩,h4⟩
   exact ⟨h1,by rintro rfl; simp at h2,by omega,h4⟩
  ·rintro ⟨h1,h2,h3,h4⟩
   have : 0 < a.length:=List.length_pos_iff.2 h2
   exact ⟨⟨h1,by omega,by omega⟩,h4⟩
theorem implShape (a : List UInt8) (hl : a.length ≤ 30) : Ans (F_u42f_l0 a (a.length : Int) 0) (some (.inl ())) (some (.inr false)) (∀ i,i < a.length → shape a i):=by
 unfold F_u42f_l0
 refine y36q (fun i=>(a,(a.length : Int),((i : Nat) : Int))) a.length (shape a) (fun i C hi hb=>?_) (fun C _=>?_) (by omega)
 ·unfold B_u42f_l0
  simp (disch:=omega) only [y10q,Int.toNat_natCast,y44q,not_dec,Bool.not_true,Bool.not_false,br_true,y43q]
  refine y4q (by omega) (y4q (by omega) (y4q (by omega) ?_))
  refine y21q (y60q (fun h=>y117q fun h2=>y117q fun h3=>y32q fun h4=>y32q fun h5=>y5q fun h6=>y39q)
   fun h=>y117q fun h2=>y32q fun h3=>y32q fun h4=>y5q fun h5=>y39q) ?_
  unfold shape letter digit
  simp only [and_true,Decidable.not_not]
  omega
 ·unfold B_u42f_l0
  exact y15q (by simp) _ _
theorem resContains (x : List UInt8) : strings_Contains 0 [32,97,108,108,32,97,110,100,32,97,115,32,97,115,99,32,98,101,103,105,110,32,98,101,116,119,101,101,110,32,98,121,32,99,97,115,101,32,99,97,115,116,32,99,111,109,109,105,116,32,99,114,101,97,116,101,32,99,114,111,115,115,32,100,97,121,32,100,101,108,101,116,101,32,100,101,115,99,32,100,105,115,116,105,110,99,116,32,100,114,111,112,32,101,108,115,101,32,101,110,100,32,101,120,99,101,112,116,32,101,120,105,115,116,115,32,101,120,112,108,97,105,110,32,102,97,108,115,101,32,102,114,111,109,32,103,114,111,117,112,32,104,97,118,105,110,103,32,105,110,32,105,110,100,101,120,32,105,110,115,101,114,116,32,105,110,116,101,114,115,101,99,116,32,105,110,116,111,32,105,115,32,106,111,105,110,32,107,101,121,32,108,101,102,116,32,108,105,109,105,116,32,110,111,116,32,110,117,108,108,32,111,110,32,111,114,32,111,114,100,101,114,32,111,118,101,114,32,112,97,114,116,105,116,105,111,110,32,112,114,105,109,97,114,121,32,114,101,99,117,114,115,105,118,101,32,114,111,108,108,98,97,99,107,32,115,101,108,101,99,116,32,115,101,116,32,116,97,98,108,101,32,116,104,101,110,32,116,114,117,101,32,117,110,105,111,110,32,117,110,105,113,117,101,32,117,112,100,97,116,101,32,118,97,108,117,101,115,32,118,105,101,119,32,119,104,101,110,32,119,104,101,114,101,32,119,105,116,104,32,97,108,116,101,114,32,97,100,100,32,99,111,108,117,109,110,32,108,101,118,101,108,32,115,101,114,105,97,108,32,115,110,97,112,115,104,111,116,32,108,97,116,101,115,116,32] x = some (Go.Lib.contains (32 :: text words) x):=by
 rw [← words_text]; rfl
theorem shape_blank {a : List UInt8} (h : ∀ i,i < a.length → shape a i) : (32 : UInt8) ∉ a:=fun hm=>by
 obtain ⟨i,hi,e⟩:=List.mem_iff_getElem.1 hm
 have:=h i hi
 have hg : a.getD i 0 = 32:=by simp [List.getD_eq_getElem?_getD,hi,e]
 unfold shape letter digit at this
 rw [hg] at this
 revert this
 simp
theorem implName (a : List UInt8) (hl : a.length ≤ 1048576) : Ans (F_u42f a) (some true) (some false) (Name a):=by
 unfold F_u42f
 simp only [y44q]
 refine y21q (y5q fun h1=>y5q fun h2=>y4q (by simp [capN]; omega) (y4q (by simp [capN]; omega) (y98q (resContains _) (y147q fun h3=>y26q (implShape a (by omega)) rfl rfl)))) ?_
 unfold Name
 have e : ∀ h4 : (∀ i,i < a.length → shape a i),a ≠ [] → (Go.Lib.contains (32 :: text words) ([32] ++ a ++ [32]) = true ↔ a ∈ words):=fun h4 h1=>by
  rw [show [32] ++ a ++ [32] = 32 :: (a ++ [32]) from rfl,contains_words (shape_blank h4) h1 words_blank,decide_eq_true_eq]
 constructor
 ·rintro ⟨h1,h2,h3,h4⟩
  rw [e h4 h1] at h3
  exact ⟨h4,h1,by omega,h3⟩
 ·rintro ⟨h4,h1,h2,h3⟩
  refine ⟨h1,by omega, ?_,h4⟩
  rw [e h4 h1]
  exact h3
end Go.Ev.T1
