import Derived.Test.YtmigbnokhhdopaaRrEvG
set_option linter.unusedSimpArgs false
set_option linter.unusedVariables false
namespace Go.Ev.T1
open Go Go.Proofs
abbrev KV:=Int × Int × Int × List UInt8 × Unit
def Prn (s : List UInt8) : Prop:=∀ i,i < s.length → 32 ≤ (s.getD i 0).toNat ∧ (s.getD i 0).toNat ≤ 126
def VOK (a : KV) : Prop :=
 (a.1 = 0 ∧ a.2.1 = 0 ∧ a.2.2.1 = 0 ∧ a.2.2.2.1 = []) ∨ (a.1 = 1 ∧ 0 ≤ a.2.1 ∧ a.2.1 ≤ 1 ∧ a.2.2.1 = 0 ∧ a.2.2.2.1 = []) ∨
 (a.1 = 2 ∧ -1000000000000000 ≤ a.2.1 ∧ a.2.1 ≤ 1000000000000000 ∧ a.2.2.1 = 0 ∧ a.2.2.2.1 = []) ∨
 (a.1 = 3 ∧ -1000000000 ≤ a.2.1 ∧ a.2.1 ≤ 1000000000 ∧ 0 ≤ a.2.2.1 ∧ a.2.2.1 ≤ 6 ∧ (a.2.2.1 = 0 ∨ Int.tmod a.2.1 10 ≠ 0) ∧ a.2.2.2.1 = []) ∨
 (a.1 = 4 ∧ a.2.1 = 0 ∧ a.2.2.1 = 0 ∧ Prn a.2.2.2.1 ∧ a.2.2.2.1.length ≤ 200) ∨ (a.1 = 5 ∧ 0 ≤ a.2.1 ∧ a.2.1 ≤ 3652058 ∧ a.2.2.1 = 0 ∧ a.2.2.2.1 = [])
def be : Nat → Nat → List UInt8
 | _,0=>[]
 | n,k + 1=>be (n / 256) k ++ [UInt8.ofNat n]
theorem y34q : ∀ (k n : Nat),(be n k).length = k
 | 0,_=>rfl
 | k + 1,n=>by simp [be,y34q k]
def pow10 (n : Int) : Int:=10 ^ n.toNat
def encV (a : KV) : List UInt8 :=
 if a.1 = 0 then [1]
 else if a.1 = 1 then [2,UInt8.ofNat a.2.1.toNat]
 else if a.1 = 2 ∨ a.1 = 3 then 3 :: (be (1152921504606846976 + a.2.1 / pow10 a.2.2.1).toNat 8 ++ be (a.2.1 % pow10 a.2.2.1 * pow10 (6 - a.2.2.1)).toNat 3 ++ [UInt8.ofNat a.1.toNat])
 else if a.1 = 4 then 4 :: (a.2.2.2.1 ++ [0])
 else 5 :: be a.2.1.toNat 3
theorem encV_le (a : KV) (h : VOK a) : (encV a).length ≤ 202:=by
 unfold encV VOK at *
 (repeat' split) <;> simp [y34q] <;> omega
open Classical in
noncomputable def KB (l : List KV) : List UInt8 × Int :=
 if l.length ≤ 16 ∧ ∀ v ∈ l,VOK v then (l.flatMap encV,0) else ([],1)
theorem KB_pos {l : List KV} (h : l.length ≤ 16) (h2 : ∀ v ∈ l,VOK v) : KB l = (l.flatMap encV,0):=if_pos ⟨h,h2⟩
theorem KB_neg {l : List KV} (h : ¬ (l.length ≤ 16 ∧ ∀ v ∈ l,VOK v)) : KB l = ([],1):=if_neg h
end Go.Ev.T1
