import Derived.Test.YtmigbnokhhdopaaRrCatQ4
set_option linter.unusedSimpArgs false
set_option linter.unusedVariables false
set_option maxRecDepth 100000
namespace Go.Ev.T1
open Go Go.Proofs
theorem getD_get {α : Type} {xs : List α} {z : α} {i : Nat} (hi : i < xs.length) : xs.getD i z = xs[i]:=by simp [List.getD_eq_getElem?_getD,hi]
theorem idx_self {α β : Type} [DecidableEq β] (f : α → β) (z : α) (xs : List α) : (∀ i,i < xs.length → idx (fun c=>decide (f c = f (xs.getD i z))) xs = (i : Int)) ↔ (xs.map f).Nodup:=by
 rw [List.Nodup,List.pairwise_iff_getElem]
 constructor
 ·intro h i j hi hj hij e
  simp only [List.length_map] at hi hj
  simp only [List.getElem_map] at e
  have:=h j hj
  rw [idx_eq] at this
  obtain ⟨_,_,h3⟩:=this
  have:=h3 i hij
  rw [getD_get hj] at this
  simp [e] at this
 ·intro h i hi
  rw [idx_eq]
  refine ⟨hi,by rw [getD_get hi]; simp,fun j hj=>?_⟩
  have:=h j i (by simp; omega) (by simpa using hi) hj
  simp only [List.getElem_map] at this
  rw [getD_get hi]
  simpa using this
theorem pairs_nodup {α β : Type} (f : α → β) (z : α) (xs : List α) : (∀ i,i < xs.length → ∀ k,k < i → f (xs.getD k z) ≠ f (xs.getD i z)) ↔ (xs.map f).Nodup:=by
 rw [List.Nodup,List.pairwise_iff_getElem]
 constructor
 ·intro h i j hi hj hij e
  simp only [List.length_map] at hi hj
  simp only [List.getElem_map] at e
  exact h j hj i hij (by rw [getD_get hi,getD_get hj]; exact e)
 ·intro h i hi k hk
  have:=h k i (by simp; omega) (by simpa using hi) hk
  simp only [List.getElem_map] at this
  rw [getD_get hi,getD_get (by omega)]
  exact this
theorem nodup_le {α : Type} [DecidableEq α] : ∀ {l m : List α},l.Nodup → (∀ x ∈ l,x ∈ m) → l.length ≤ m.length
 | [],m,_,_=>by simp
 | a :: l,m,h,hs=>by
  rw [List.nodup_cons] at h
  have ha:=hs a List.mem_cons_self
  have:=nodup_le (l:=l) (m:=m.erase a) h.2 fun x hx=>(List.mem_erase_of_ne (fun e=>h.1 (by rw [← e]; exact hx))).2 (hs x (List.mem_cons_of_mem _ hx))
  rw [List.length_erase_of_mem ha] at this
  have:=List.length_pos_of_mem ha
  simp only [List.length_cons]
  omega
theorem colAt_mem {t : y6q} {id : Int} (h : ¬ colAt t id < 0) : id ∈ t.2.2.2.1.map (·.1):=by
 obtain ⟨x,hx,h⟩:=idx_nonneg.1 (Int.not_lt.1 h)
 exact List.mem_map.2 ⟨x,hx,by simpa using h⟩
theorem keys_le {t : y6q} {need : Bool} {ids : List Int} (h : ids.Nodup) (hc : (t.2.2.2.1.length : Int) ≤ 14) (ha : ∀ j,j < ids.length → ColIs t need (ids.getD j zInt)) : ids.length ≤ 16:=by
 have:=nodup_le h (m:=t.2.2.2.1.map (·.1)) fun x hx=>by
  obtain ⟨j,hj,rfl⟩:=List.mem_iff_getElem.1 hx
  have:=ha j hj
  rw [getD_get hj] at this
  exact colAt_mem this.1
 rw [List.length_map] at this
 omega
theorem colsOK_iff {t : y6q} {need : Bool} {ids : List Int} (hl : ids.Nodup → (∀ j,j < ids.length → ColIs t need (ids.getD j zInt)) → ids.length ≤ 16) : ColsOK t ids need ↔ (¬ (ids.length : Int) = 0 ∧ ids.Nodup ∧ ∀ j,j < ids.length → ColIs t need (ids.getD j zInt)):=by
 unfold ColsOK
 have : ids ≠ [] ↔ ¬ ((ids.length : Int) = 0):=by rw [← List.length_pos_iff]; omega
 rw [this]
 exact ⟨fun ⟨a,_,b,c⟩=>⟨a,b,c⟩,fun ⟨a,b,c⟩=>⟨a,hl b c,b,c⟩⟩
theorem table_iff (t : y6q) : SpecTable t ↔ ImplTable t:=by
 unfold SpecTable ImplTable
 have hcols : (∀ i,i < t.2.2.2.1.length → SpecColP t i) ↔ ((∀ i,i < t.2.2.2.1.length → ImplColP t i) ∧ (t.2.2.2.1.map (·.1)).Nodup ∧ (t.2.2.2.1.map (·.2.1)).Nodup):=by
  rw [← idx_self (fun c : y11q=>c.1) y22q,← idx_self (fun c : y11q=>c.2.1) y22q]
  unfold SpecColP ImplColP
  constructor
  ·intro h
   refine ⟨fun i hi=>?_,fun i hi=>(h i hi).2.2.2.2.2.1,fun i hi=>(h i hi).2.2.2.2.2.2⟩
   obtain ⟨a,b,c,d,e,_⟩:=h i hi
   exact ⟨⟨a,b⟩,c,d,e⟩
  ·rintro ⟨h1,h2,h3⟩ i hi
   obtain ⟨⟨a,b⟩,c,d,e⟩:=h1 i hi
   exact ⟨a,b,c,d,e,h2 i hi,h3 i hi⟩
 have hix : (∀ i,i < t.2.2.2.2.2.1.length → SpecIxP t i) ↔ ((∀ i,i < t.2.2.2.2.2.1.length → ImplIxP t i) ∧ (t.2.2.2.2.2.1.map (·.1)).Nodup ∧ (t.2.2.2.2.2.1.map (·.2.1)).Nodup):=by
  rw [← pairs_nodup (fun c : y16q=>c.1) y57q,← pairs_nodup (fun c : y16q=>c.2.1) y57q]
  unfold SpecIxP ImplIxP
  constructor
  ·intro h
   refine ⟨fun i hi=>?_,fun i hi k hk=>((h i hi).2.2.2.2.2.2.2 k hk).1,fun i hi k hk=>((h i hi).2.2.2.2.2.2.2 k hk).2⟩
   obtain ⟨a,b,c,d,e,f,g,_⟩:=h i hi
   rw [colsOK_iff fun _ _=>by omega] at f
   obtain ⟨f1,f2,f3⟩:=f
   exact ⟨⟨a,b⟩,c,f1,f2,⟨d,e⟩,g,fun j hj=>Int.not_lt.1 (f3 j hj).1⟩
  ·rintro ⟨h1,h2,h3⟩ i hi
   obtain ⟨⟨a,b⟩,c,f1,f2,⟨d,e⟩,g,f3⟩:=h1 i hi
   exact ⟨a,b,c,d,e,(colsOK_iff fun _ _=>by omega).2 ⟨f1,f2,fun j hj=>⟨Int.not_lt.2 (f3 j hj),by simp⟩⟩,g,fun k hk=>⟨h2 i hi k hk,h3 i hi k hk⟩⟩
 rw [hcols,hix]
 constructor
 ·rintro ⟨a,b,c,d,e,f,g,h,⟨i1,i2,i3⟩,j,k1,k2,k3⟩
  rw [colsOK_iff fun h1 h2=>keys_le h1 g h2] at j
  exact ⟨⟨a,b⟩,⟨d,e⟩,c,⟨f,g⟩,j.1,j.2.1,h,i1,i2,i3,j.2.2,k1,k2,k3⟩
 ·rintro ⟨⟨a,b⟩,⟨d,e⟩,c,⟨f,g⟩,j1,j2,h,i1,i2,i3,j3,k1,k2,k3⟩
  exact ⟨a,b,c,d,e,f,g,h,⟨i1,i2,i3⟩,(colsOK_iff fun h1 h2=>keys_le h1 g h2).2 ⟨j1,j2,j3⟩,k1,k2,k3⟩
end Go.Ev.T1
