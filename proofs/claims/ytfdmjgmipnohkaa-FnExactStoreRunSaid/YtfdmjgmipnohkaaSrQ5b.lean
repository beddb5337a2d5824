import Derived.Test.YtfdmjgmipnohkaaSrQ5d
set_option linter.unusedSimpArgs false
set_option linter.unusedVariables false
namespace Go.Ev.T1
open Go Go.Proofs
attribute [local irreducible] hstep
theorem fold_succ (key : List UInt8) (i : Nat) (hi : i < key.length) (h0 : Nat) : (key.take (i + 1)).foldl hstep h0 = hstep ((key.take i).foldl hstep h0) (key.getD i 0) := by
 rw [List.take_succ_eq_append_getElem hi, List.foldl_append, y33q hi, List.foldl_cons, List.foldl_nil]
theorem implHash (key : List UInt8) (hk : key.length ≤ 1048576) (b : Int) (p : Int × Int × Int × Unit) (h0 : Nat) (hh : h0 < 4294967296) : F_u43f_l0 key b p (h0 : Int) 0 = some (b, p, ((key.foldl hstep h0 : Nat) : Int)) := by
 unfold F_u43f_l0
 have := y38q (B := B_u43f_l0) (fun i => (key, b, p, (((key.take i).foldl hstep h0 : Nat) : Int), ((i : Nat) : Int))) key.length (some (b, p, ((key.foldl hstep h0 : Nat) : Int))) (fun i C hi => ?_) (fun C => ?_) (((key.length : Nat) : Int).toNat + 1) 0 (Nat.zero_le _) (by simp)
 ·exact this
 ·unfold B_u43f_l0
  have hl := hash_lt (key.take i) h0 hh
  simp (disch := omega) only [y9q, Int.toNat_natCast]
  rw [y2q (by omega), y2q (by omega), y2q (by omega), fold_succ key i hi]
  exact congrArg (fun x => C (key, b, p, x, ((i + 1 : Nat) : Int))) (ustep ((key.take i).foldl hstep h0) hl (key.getD i 0))
 ·unfold B_u43f_l0
  rw [y11q (by simp)]
  simp only [List.take_length]
theorem istep (h : Nat) (hl : h < 4294967296) (c : UInt8) : (IntKind.i64.wrap (bits .xor .i64 (h : Int) (IntKind.i64.wrap (c.toNat : Int)) * 16777619)).tmod 4294967296 = ((hstep h c : Nat) : Int) := by
 have hc := u8_lt c
 have e1 : IntKind.i64.wrap (c.toNat : Int) = (c.toNat : Int) := y17q (by omega) (by omega)
 have e2 := xor_i64 hl (show c.toNat < 4294967296 by omega)
 have hx := xor_lt32 hl (show c.toNat < 4294967296 by omega)
 rw [e1, e2, hstep_def]
 generalize h ^^^ c.toNat = x at hx ⊢
 rw [y17q (by omega) (by omega), Int.tmod_eq_emod_of_nonneg (by omega)]
 omega
theorem specHash0 (key : List UInt8) (hk : key.length ≤ 1048576) (h0 : Nat) (hh : h0 < 4294967296) : F_u11f_l0 key (h0 : Int) 0 = some ((key.foldl hstep h0 : Nat) : Int) := by
 unfold F_u11f_l0
 have := y38q (B := B_u11f_l0) (fun i => (key, (((key.take i).foldl hstep h0 : Nat) : Int), ((i : Nat) : Int))) key.length (some ((key.foldl hstep h0 : Nat) : Int)) (fun i C hi => ?_) (fun C => ?_) (((key.length : Nat) : Int).toNat + 1) 0 (Nat.zero_le _) (by simp)
 ·exact this
 ·unfold B_u11f_l0
  have hl := hash_lt (key.take i) h0 hh
  have e0 : (!4294967296 == 0) = true := by decide
  simp (disch := omega) only [y9q, Int.toNat_natCast]
  rw [y2q (by omega), y2q (by omega), y2q (by omega), e0, brT, fold_succ key i hi]
  exact congrArg (fun x => C (key, x, ((i + 1 : Nat) : Int))) (istep ((key.take i).foldl hstep h0) hl (key.getD i 0))
 ·unfold B_u11f_l0
  rw [y11q (by simp)]
  simp only [List.take_length]
def hA (key : List UInt8) : Nat := key.foldl hstep 2166136261 % 65536
def hB (key : List UInt8) : Nat := key.foldl hstep 2166136261 / 65536 + 1
theorem hA_lt (key : List UInt8) : hA key < 65536 := Nat.mod_lt _ (by omega)
theorem hB_le (key : List UInt8) : hB key ≤ 65536 := by
 have := hash_lt key 2166136261 (by omega)
 unfold hB; omega
theorem specHash (key : List UInt8) (hk : key.length ≤ 1048576) : F_u11f key = some ((hA key : Int), (hB key : Int)) := by
 unfold F_u11f
 have e := specHash0 key hk 2166136261 (by omega)
 have e0 : (!65536 == 0) = true := by decide
 have hl := hash_lt key 2166136261 (by omega)
 rw [show ((2166136261 : Nat) : Int) = 2166136261 from rfl] at e
 rw [y127q e, e0, brT, brT]
 unfold hA hB
 generalize key.foldl hstep 2166136261 = x at hl ⊢
 rw [Int.tmod_eq_emod_of_nonneg (by omega), Int.tdiv_eq_ediv_of_nonneg (by omega), y17q (x := (x : Int) / 65536) (by omega) (by omega), y17q (by omega) (by omega)]
 rfl
def bitp (n : Nat) (key : List UInt8) (k : Nat) : Nat := (hA key + k * hB key) % (8 * n)
theorem bitp_lt (n : Nat) (key : List UInt8) (k : Nat) (hn : 0 < n) : bitp n key k < 8 * n := Nat.mod_lt _ (by omega)
theorem implPlaces (key : List UInt8) (hk : key.length ≤ 1048576) (n : Nat) (hn : 0 < n) (hn2 : n ≤ 8192) : F_u43f key ((8 * n : Nat) : Int) = some ((bitp n key 0 : Int), (bitp n key 1 : Int), (bitp n key 2 : Int), ()) := by
 unfold F_u43f
 have e := implHash key hk ((8 * n : Nat) : Int) (0, 0, 0, ()) 2166136261 (by omega)
 rw [show ((2166136261 : Nat) : Int) = 2166136261 from rfl] at e
 have hl := hash_lt key 2166136261 (by omega)
 have e0 : (!(((8 * n : Nat) : Int)) == 0) = true := by
  rw [y57q, not_dec]; exact decide_eq_true (by omega)
 rw [y127q e, y2q (by omega)]
 show br (!(((8 * n : Nat) : Int)) == 0) _ _ = _
 rw [e0, brT, brT, brT]
 unfold bitp hA hB
 show some ((IntKind.i64.wrap (bits BinOp.and IntKind.u32 ((key.foldl hstep 2166136261 : Nat) : Int) 65535)).tmod ((8 * n : Nat) : Int), (IntKind.i64.wrap (IntKind.i64.wrap (bits BinOp.and IntKind.u32 ((key.foldl hstep 2166136261 : Nat) : Int) 65535) + IntKind.i64.wrap (IntKind.i64.wrap (Int.fdiv ((key.foldl hstep 2166136261 : Nat) : Int) (2 ^ min (Int.toNat 16) IntKind.u32.bits)) + 1))).tmod ((8 * n : Nat) : Int), (IntKind.i64.wrap (IntKind.i64.wrap (bits BinOp.and IntKind.u32 ((key.foldl hstep 2166136261 : Nat) : Int) 65535) + IntKind.i64.wrap (2 * IntKind.i64.wrap (IntKind.i64.wrap (Int.fdiv ((key.foldl hstep 2166136261 : Nat) : Int) (2 ^ min (Int.toNat 16) IntKind.u32.bits)) + 1)))).tmod ((8 * n : Nat) : Int), ()) = _
 rw [and_u32 hl]
 have ep : (2 : Int) ^ min (Int.toNat 16) IntKind.u32.bits = 65536 := by decide
 rw [ep]
 generalize key.foldl hstep 2166136261 = x at hl ⊢
 have ed : Int.fdiv (x : Int) 65536 = ((x / 65536 : Nat) : Int) := by rw [Int.fdiv_eq_ediv_of_nonneg _ (by omega)]; omega
 rw [ed]
 generalize hq : x / 65536 = q
 generalize hr : x % 65536 = r
 have hq' : q ≤ 65536 := by omega
 have hr' : r ≤ 65536 := by omega
 rw [y17q (x := (r : Int)) (by omega) (by omega), y17q (x := (q : Int)) (by omega) (by omega), y17q (x := (q : Int) + 1) (by omega) (by omega), y17q (x := 2 * ((q : Int) + 1)) (by omega) (by omega), y17q (by omega) (by omega), y17q (by omega) (by omega)]
 have f0 : (r : Int).tmod ((8 * n : Nat) : Int) = (((r + 0 * (q + 1)) % (8 * n) : Nat) : Int) := by rw [Int.ofNat_tmod]; congr 1 <;> omega
 have f1 : ((r : Int) + ((q : Int) + 1)).tmod ((8 * n : Nat) : Int) = (((r + 1 * (q + 1)) % (8 * n) : Nat) : Int) := by rw [Int.ofNat_tmod]; congr 1 <;> omega
 have f2 : ((r : Int) + 2 * ((q : Int) + 1)).tmod ((8 * n : Nat) : Int) = (((r + 2 * (q + 1)) % (8 * n) : Nat) : Int) := by rw [Int.ofNat_tmod]; congr 1 <;> omega
 rw [f0, f1, f2]
end Go.Ev.T1
