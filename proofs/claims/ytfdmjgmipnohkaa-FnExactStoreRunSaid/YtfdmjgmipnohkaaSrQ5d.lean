import Derived.Test.YtfdmjgmipnohkaaSrQ5a
namespace Go.Ev.T1
open Go Go.Proofs
theorem hstep_def (h : Nat) (c : UInt8) : hstep h c = (h ^^^ c.toNat) * 16777619 % 4294967296 := rfl
theorem ustep (h : Nat) (hl : h < 4294967296) (c : UInt8) : IntKind.u32.wrap (bits .xor .u32 (h : Int) (IntKind.u32.wrap (c.toNat : Int)) * 16777619) = ((hstep h c : Nat) : Int) := by
 have hc := u8_lt c
 have e1 : IntKind.u32.wrap (c.toNat : Int) = (c.toNat : Int) := by rw [wrap_u32 c.toNat, Nat.mod_eq_of_lt (by omega)]
 have e2 := xor_u32 hl (show c.toNat < 4294967296 by omega)
 rw [e1, e2, hstep_def]
 generalize h ^^^ c.toNat = x
 have e3 : (x : Int) * 16777619 = ((x * 16777619 : Nat) : Int) := by omega
 rw [e3, wrap_u32 (x * 16777619)]
end Go.Ev.T1
