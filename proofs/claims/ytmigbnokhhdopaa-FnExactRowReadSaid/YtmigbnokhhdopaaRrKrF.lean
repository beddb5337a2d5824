import Derived.Test.YtmigbnokhhdopaaRrKr
import Derived.Test.YtmigbnokhhdopaaRrEvG
set_option linter.unusedVariables false
set_option maxRecDepth 100000
namespace Go.Ev.T2
open Go Go.Proofs Go.Ev.T1
abbrev y0q : Type:=Int × Int × Int × (List UInt8) × Unit
abbrev y18q : y0q:=Ty.zero T51
noncomputable def B_u51f_l0 : (((List UInt8)) × (Int)) → ((((List UInt8)) × (Int)) → Option (Unit ⊕ Bool)) → Option (Unit ⊕ Bool):=fun s C=>br (decide ((s.2) < (↑(List.length (s.1)) : Int))) (br (decide (0 ≤ (s.2))) (br (decide ((s.2) < (↑(List.length (s.1)) : Int))) (br (decide ((↑(List.getD (s.1) (Int.toNat (s.2)) 0).toNat : Int) < 32)) (some (Sum.inr false)) (br (decide (0 ≤ (s.2))) (br (decide ((s.2) < (↑(List.length (s.1)) : Int))) (br (decide ((↑(List.getD (s.1) (Int.toNat (s.2)) 0).toNat : Int) > 126)) (some (Sum.inr false)) (C ((s.1),(IntKind.i64.wrap ((s.2) + 1))))) (none)) (none))) (none)) (none)) (some (Sum.inl ()))
noncomputable def F_u51f_l0 (v0 : (List UInt8)) (v3 : Int) : Option (Unit ⊕ Bool):=forG B_u51f_l0 (((List.length v0 : Int) : Int).toNat + 1) (v0,v3)
theorem lm_u51f_l0 (v0 : (List UInt8)) (v3 : Int) : Lm (fun k=>u51f_l0 k v0 v3) (F_u51f_l0 v0 v3):=y19q (L:=fun k (s : ((List UInt8)) × (Int))=>u51f_l0 k (s.1) (s.2)) (fun s C hC=>lm_eq (by
 unfold B_u51f_l0
 repeat' first | (with_reducible first | exact y7q _ | exact y1q _ | apply lm_br | refine y12q ?_ fun y=>?_ | refine y3q (fun y=>?_) fun z=>?_) | exact hC (_,_)) fun k=>u51f_l0_succ k (s.1) (s.2)) _ (v0,v3)
noncomputable def F_u51f (a : (List UInt8)) : Option Bool:=bnd (F_u51f_l0 a 0) (fun y1=>onSum y1 (fun y2=>some true) (fun y2=>some y2))
theorem lm_u51f (a : (List UInt8)) : Lm (fun k=>u51f k a) (F_u51f a):=lm_eq (by
 unfold F_u51f
 repeat' first | (with_reducible first | exact y7q _ | exact y1q _ | apply lm_br | refine y12q ?_ fun y=>?_ | refine y3q (fun y=>?_) fun z=>?_) | (with_reducible exact lm_u51f_l0 _ _)) fun k=>u51f_eq k a
noncomputable def F_u52f (a : y0q) : Option Bool:=br (a.1 == 0) (some (andB (eqI a.1 a.1) (andB (eqI a.2.1 0) (andB (eqI a.2.2.1 0) (andB (eqS a.2.2.2.1 []) true))))) (br (a.1 == 1) (br (decide (a.2.1 < 0)) (some false) (br (decide (a.2.1 > 1)) (some false) (some (andB (eqI a.1 a.1) (andB (eqI 0 0) (andB (eqI a.2.2.1 0) (andB (eqS a.2.2.2.1 []) true))))))) (br (a.1 == 2) (br (decide (a.2.1 < -1000000000000000)) (some false) (br (decide (a.2.1 > 1000000000000000)) (some false) (some (andB (eqI a.1 a.1) (andB (eqI 0 0) (andB (eqI a.2.2.1 0) (andB (eqS a.2.2.2.1 []) true))))))) (br (a.1 == 3) (br (decide (a.2.1 < -1000000000)) (some false) (br (decide (a.2.1 > 1000000000)) (some false) (br (decide (a.2.2.1 < 0)) (some false) (br (decide (a.2.2.1 > 6)) (some false) (br (decide (a.2.2.1 > 0)) (br (!10 == 0) (br (Int.tmod a.2.1 10 == 0) (some false) (some (andB (eqI a.1 a.1) (andB (eqI 0 0) (andB (eqI 0 0) (andB (eqS a.2.2.2.1 []) true)))))) (none)) (some (andB (eqI a.1 a.1) (andB (eqI 0 0) (andB (eqI 0 0) (andB (eqS a.2.2.2.1 []) true)))))))))) (br (a.1 == 4) (br (decide ((List.length a.2.2.2.1 : Int) > 200)) (some false) (bnd (F_u51f a.2.2.2.1) (fun y1=>br (!y1) (some false) (some (andB (eqI a.1 a.1) (andB (eqI a.2.1 0) (andB (eqI a.2.2.1 0) (andB (eqS [] []) true)))))))) (br (a.1 == 5) (br (decide (a.2.1 < 0)) (some false) (br (decide (a.2.1 > 3652058)) (some false) (some (andB (eqI a.1 a.1) (andB (eqI 0 0) (andB (eqI a.2.2.1 0) (andB (eqS a.2.2.2.1 []) true))))))) (some false))))))
theorem lm_u52f (a : y0q) : Lm (fun k=>u52f k a) (F_u52f a):=lm_eq (by
 unfold F_u52f
 repeat' first | (with_reducible first | exact y7q _ | exact y1q _ | apply lm_br | refine y12q ?_ fun y=>?_ | refine y3q (fun y=>?_) fun z=>?_) | (with_reducible exact lm_u51f _)) fun k=>u52f_eq k a
noncomputable def B_u48f_l0 : ((Int) × (Int)) → (((Int) × (Int)) → Option Int) → Option Int:=fun s C=>br (decide ((s.1) > 0)) (C ((IntKind.i64.wrap ((s.1) - 1)),(IntKind.i64.wrap ((s.2) * 10)))) (some (s.2))
noncomputable def F_u48f_l0 (v0 : Int) (v3 : Int) : Option Int:=forG B_u48f_l0 (v0.toNat + 1) (v0,v3)
theorem lm_u48f_l0 (v0 : Int) (v3 : Int) : Lm (fun k=>u48f_l0 k v0 v3) (F_u48f_l0 v0 v3):=y19q (L:=fun k (s : (Int) × (Int))=>u48f_l0 k (s.1) (s.2)) (fun s C hC=>lm_eq (by
 unfold B_u48f_l0
 repeat' first | (with_reducible first | exact y7q _ | exact y1q _ | apply lm_br | refine y12q ?_ fun y=>?_ | refine y3q (fun y=>?_) fun z=>?_) | exact hC (_,_)) fun k=>u48f_l0_succ k (s.1) (s.2)) _ (v0,v3)
noncomputable def F_u48f (a : Int) : Option Int:=bnd (F_u48f_l0 a 1) (fun y1=>some y1)
theorem lm_u48f (a : Int) : Lm (fun k=>u48f k a) (F_u48f a):=lm_eq (by
 unfold F_u48f
 repeat' first | (with_reducible first | exact y7q _ | exact y1q _ | apply lm_br | refine y12q ?_ fun y=>?_ | refine y3q (fun y=>?_) fun z=>?_) | (with_reducible exact lm_u48f_l0 _ _)) fun k=>u48f_eq k a
noncomputable def B_u72f_l0 : ((Int) × ((List Int)) × (Int)) → (((Int) × ((List Int)) × (Int)) → Option (List Int)) → Option (List Int):=fun s C=>br (decide ((s.2.2) ≥ 0)) (br (decide (0 ≤ (s.2.2))) (br (decide ((s.2.2) < (↑(List.length (s.2.1)) : Int))) (br (decide (0 ≤ 8)) (C ((Int.fdiv (s.1) (2 ^ min (Int.toNat 8) IntKind.i64.bits)),(List.set (s.2.1) (Int.toNat (s.2.2)) (IntKind.u8.wrap (s.1))),(IntKind.i64.wrap ((s.2.2) - 1)))) (none)) (none)) (none)) (some (s.2.1))
noncomputable def F_u72f_l0 (v0 : Int) (v5 : (List Int)) (v6 : Int) : Option (List Int):=forG B_u72f_l0 (v5.length + 1) (v0,v5,v6)
theorem lm_u72f_l0 (v0 : Int) (v5 : (List Int)) (v6 : Int) : Lm (fun k=>u72f_l0 k v0 v5 v6) (F_u72f_l0 v0 v5 v6):=y19q (L:=fun k (s : (Int) × ((List Int)) × (Int))=>u72f_l0 k (s.1) (s.2.1) (s.2.2)) (fun s C hC=>lm_eq (by
 unfold B_u72f_l0
 repeat' first | (with_reducible first | exact y7q _ | exact y1q _ | apply lm_br | refine y12q ?_ fun y=>?_ | refine y3q (fun y=>?_) fun z=>?_) | exact hC (_,_,_)) fun k=>u72f_l0_succ k (s.1) (s.2.1) (s.2.2)) _ (v0,v5,v6)
noncomputable def F_u72f (a : Int) (b : Int) : Option (List UInt8):=br (b == b) (br (decide (0 ≤ b)) (br (decide (b ≤ (↑capN : Int))) (bnd (F_u72f_l0 a (List.replicate (Int.toNat b) (Ty.int IntKind.u8).zero) (IntKind.i64.wrap (b - 1))) (fun y1=>some (List.map (fun n=>UInt8.ofNat n.toNat) y1))) (none)) (none)) (none)
theorem lm_u72f (a : Int) (b : Int) : Lm (fun k=>u72f k a b) (F_u72f a b):=lm_eq (by
 unfold F_u72f
 repeat' first | (with_reducible first | exact y7q _ | exact y1q _ | apply lm_br | refine y12q ?_ fun y=>?_ | refine y3q (fun y=>?_) fun z=>?_) | (with_reducible exact lm_u72f_l0 _ _ _)) fun k=>u72f_eq k a b
end Go.Ev.T2
