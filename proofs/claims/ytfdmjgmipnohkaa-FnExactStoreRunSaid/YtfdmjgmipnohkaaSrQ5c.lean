import Derived.Test.YtfdmjgmipnohkaaSrQ5b
set_option linter.unusedSimpArgs false
set_option linter.unusedVariables false
namespace Go.Ev.T1
open Go Go.Proofs
attribute [local irreducible] hstep
def setb (row : List Int) (p : Nat) : List Int := row.set (p / 8) (bits .or .u8 (row.getD (p / 8) z_u8) (IntKind.u8.wrap (1 * 2 ^ min (p % 8) IntKind.u8.bits)))
theorem setb_len (row : List Int) (p : Nat) : (setb row p).length = row.length := by simp [setb]
def rowK (n : Nat) (key : List UInt8) (row : List Int) (i : Nat) : List Int := (List.range i).foldl (fun r k => setb r (bitp n key k)) row
theorem rowK_succ (n : Nat) (key : List UInt8) (row : List Int) (i : Nat) : rowK n key row (i + 1) = setb (rowK n key row i) (bitp n key i) := by
 unfold rowK; rw [List.range_succ, List.foldl_append]; rfl
theorem rowK_len (n : Nat) (key : List UInt8) (row : List Int) : ∀ i, (rowK n key row i).length = row.length
 | 0 => rfl
 | i + 1 => by rw [rowK_succ, setb_len, rowK_len n key row i]
def setk (n : Nat) (row : List Int) (key : List UInt8) : List Int := rowK n key row 3
theorem setk_len (n : Nat) (row : List Int) (key : List UInt8) : (setk n row key).length = row.length := rowK_len n key row 3
theorem specP (n : Nat) (key : List UInt8) (k : Nat) (hn : 0 < n) (hn2 : n ≤ 8192) (hk : k < 3) : (IntKind.i64.wrap ((hA key : Int) + IntKind.i64.wrap ((k : Int) * (hB key : Int)))).tmod (IntKind.i64.wrap (8 * (n : Int))) = ((bitp n key k : Nat) : Int) := by
 have ha := hA_lt key
 have hb := hB_le key
 unfold bitp
 generalize hA key = a at ha ⊢
 generalize hB key = b at hb ⊢
 have e1 : (k : Int) * (b : Int) = ((k * b : Nat) : Int) := (Int.natCast_mul k b).symm
 have h1 : k * b ≤ 2 * 65536 := Nat.mul_le_mul (by omega) hb
 rw [e1]
 generalize k * b = q at h1 ⊢
 rw [y17q (x := (q : Int)) (by omega) (by omega), y17q (x := (a : Int) + q) (by omega) (by omega), y17q (x := 8 * (n : Int)) (by omega) (by omega), Int.ofNat_tmod]
 congr 1
theorem wdiv8 {p : Nat} (h : p < 65537) : IntKind.i64.wrap ((p : Int).tdiv 8) = ((p / 8 : Nat) : Int) := by
 rw [Int.tdiv_eq_ediv_of_nonneg (by omega), y17q (by omega) (by omega)]; omega
theorem tmod8 {p : Nat} : (p : Int).tmod 8 = ((p % 8 : Nat) : Int) := by
 rw [Int.tmod_eq_emod_of_nonneg (by omega)]; omega
theorem u64wrap {p : Nat} (h : p < 8) : IntKind.u64.wrap (p : Int) = (p : Int) := by
 simp only [IntKind.wrap, IntKind.bits, IntKind.signed, Bool.false_and]
 simp; omega
theorem specBits (v0 : List (List UInt8)) (n : Nat) (hn : 0 < n) (hn2 : n ≤ 8192) (row : List Int) (hr : row.length = n) (v5 : Int) (key : List UInt8) :
  F_u12f_l2 v0 n row v5 (hA key) (hB key) 0 = some (v0, (n : Int), setk n row key, v5) := by
 unfold F_u12f_l2
 have := y38q (B := B_u12f_l2) (fun i => (v0, (n : Int), rowK n key row i, v5, (hA key : Int), (hB key : Int), ((i : Nat) : Int))) 3 (some (v0, (n : Int), setk n row key, v5)) (fun i C hi => ?_) (fun C => ?_) ((3 : Int).toNat + 1) 0 (Nat.zero_le _) (by decide)
 ·exact this
 ·unfold B_u12f_l2
  have hp := bitp_lt n key i hn
  have hp8 : bitp n key i % 8 < 8 := Nat.mod_lt _ (by omega)
  have e8 : (!8 == 0) = true := by decide
  have en : (!IntKind.i64.wrap (8 * (n : Int)) == 0) = true := by
   rw [y17q (by omega) (by omega), y57q, not_dec]; exact decide_eq_true (by omega)
  simp only [specP n key i hn hn2 hi, wdiv8 (show bitp n key i < 65537 by omega), tmod8, u64wrap hp8, rowK_len, hr, en, e8, brT, Int.toNat_natCast]
  rw [y2q (by omega), y2q (by omega), y2q (by omega), y2q (by omega), y2q (by omega), y2q (by omega), y9q (by omega), rowK_succ]
  rfl
 ·unfold B_u12f_l2
  exact y11q (by show ¬ ((3 : Nat) : Int) < 3; omega) _ _
theorem implBits (row : List Int) (n : Nat) (hn : 0 < n) (hn2 : n ≤ 8192) (hr : row.length = n) (ks : List (List UInt8)) (a b : Int) (key : List UInt8) :
  F_u44f_l2 row ks a b ((bitp n key 0 : Int), (bitp n key 1 : Int), (bitp n key 2 : Int), ()) 0 = some (setk n row key, ks, a, b) := by
 unfold F_u44f_l2
 have := y38q (B := B_u44f_l2) (fun i => (rowK n key row i, ks, a, b, ((bitp n key 0 : Int), (bitp n key 1 : Int), (bitp n key 2 : Int), ()), ((i : Nat) : Int))) 3 (some (setk n row key, ks, a, b)) (fun i C hi => ?_) (fun C => ?_) ((3 : Int).toNat + 1) 0 (Nat.zero_le _) (by decide)
 ·exact this
 ·unfold B_u44f_l2
  have hp := bitp_lt n key i hn
  have e8 : (!8 == 0) = true := by decide
  have eg : [((bitp n key 0 : Nat) : Int), ((bitp n key 1 : Nat) : Int), ((bitp n key 2 : Nat) : Int)].getD i 0 = ((bitp n key i : Nat) : Int) := by
   match i, hi with
   | 0, _ => rfl
   | 1, _ => rfl
   | 2, _ => rfl
  have el : [((bitp n key 0 : Nat) : Int), ((bitp n key 1 : Nat) : Int), ((bitp n key 2 : Nat) : Int)].length = 3 := rfl
  simp only [Int.toNat_natCast, eg, el, wdiv8 (show bitp n key i < 65537 by omega), tmod8, rowK_len, hr, e8, brT]
  rw [y2q (by omega), y2q (by omega), y2q (by omega), y2q (by omega), y2q (by omega), y2q (by omega), y2q (by omega), y2q (by omega), y9q (by omega), rowK_succ]
  rfl
 ·unfold B_u44f_l2
  exact y11q (by show ¬ ((3 : Nat) : Int) < 3; omega) _ _
def rowL (n : Nat) (ks : List (List UInt8)) : List Int := ks.foldl (setk n) (List.replicate n (Ty.int IntKind.u8).zero)
theorem fold_len (n : Nat) (ks : List (List UInt8)) : ∀ row : List Int, (ks.foldl (setk n) row).length = row.length := by
 induction ks with
 | nil => intro row; rfl
 | cons k ks ih => intro row; rw [List.foldl_cons, ih, setk_len]
def Keys (ks : List (List UInt8)) : Prop := ks.length ≤ 1048576 ∧ ∀ k ∈ ks, k.length ≤ 1048576
theorem keys_get {ks : List (List UInt8)} (h : Keys ks) (i : Nat) (hi : i < ks.length) : (ks.getD i zStr).length ≤ 1048576 := by
 rw [y33q hi]; exact h.2 _ (List.getElem_mem hi)
theorem specRow (ks : List (List UInt8)) (hk : Keys ks) (n : Nat) (hn : 0 < n) (hn2 : n ≤ 8192) : F_u12f_l0 ks n (List.replicate n (Ty.int IntKind.u8).zero) 0 = some (rowL n ks) := by
 have h1 := hk.1
 unfold F_u12f_l0
 have := y38q (B := B_u12f_l0) (fun i => (ks, (n : Int), (ks.take i).foldl (setk n) (List.replicate n (Ty.int IntKind.u8).zero), ((i : Nat) : Int))) ks.length (some (rowL n ks)) (fun i C hi => ?_) (fun C => ?_) (((ks.length : Nat) : Int).toNat + 1) 0 (Nat.zero_le _) (by simp)
 ·exact this
 ·unfold B_u12f_l0
  simp only [Int.toNat_natCast]
  rw [y2q (by omega), y2q (by omega), y2q (by omega), y127q (specHash _ (keys_get hk i hi)), y127q (specBits ks n hn hn2 ((ks.take i).foldl (setk n) (List.replicate n (Ty.int IntKind.u8).zero)) (by rw [fold_len, List.length_replicate]) ((i : Nat) : Int) (ks.getD i zStr))]
  show C (ks, (n : Int), setk n ((ks.take i).foldl (setk n) (List.replicate n (Ty.int IntKind.u8).zero)) (ks.getD i zStr), IntKind.i64.wrap ((i : Int) + 1)) = _
  rw [y9q (by omega), List.take_succ_eq_append_getElem hi, List.foldl_append, y33q hi, List.foldl_cons, List.foldl_nil]
 ·unfold B_u12f_l0
  rw [y11q (by simp)]
  simp only [List.take_length]
  rfl
theorem implRow (ks : List (List UInt8)) (hk : Keys ks) (n : Nat) (hn : 0 < n) (hn2 : n ≤ 8192) : F_u44f_l0 (List.replicate n (Ty.int IntKind.u8).zero) ks (ks.length : Int) 0 = some (rowL n ks) := by
 have h1 := hk.1
 unfold F_u44f_l0
 have := y38q (B := B_u44f_l0) (fun i => ((ks.take i).foldl (setk n) (List.replicate n (Ty.int IntKind.u8).zero), ks, (ks.length : Int), ((i : Nat) : Int))) ks.length (some (rowL n ks)) (fun i C hi => ?_) (fun C => ?_) (((ks.length : Nat) : Int).toNat + 1) 0 (Nat.zero_le _) (by simp)
 ·exact this
 ·unfold B_u44f_l0
  simp only [Int.toNat_natCast, fold_len, List.length_replicate]
  rw [y2q (by omega), y2q (by omega), y2q (by omega), show IntKind.i64.wrap (8 * (n : Int)) = ((8 * n : Nat) : Int) by rw [y17q (by omega) (by omega)]; omega, y127q (implPlaces _ (keys_get hk i hi) n hn hn2), y127q (implBits ((ks.take i).foldl (setk n) (List.replicate n (Ty.int IntKind.u8).zero)) n hn hn2 (by rw [fold_len, List.length_replicate]) ks (ks.length : Int) ((i : Nat) : Int) (ks.getD i zStr))]
  show C (setk n ((ks.take i).foldl (setk n) (List.replicate n (Ty.int IntKind.u8).zero)) (ks.getD i zStr), ks, (ks.length : Int), IntKind.i64.wrap ((i : Int) + 1)) = _
  rw [y9q (by omega), List.take_succ_eq_append_getElem hi, List.foldl_append, y33q hi, List.foldl_cons, List.foldl_nil]
 ·unfold B_u44f_l0
  rw [y11q (by simp)]
  simp only [List.take_length]
  rfl
def filtN (len : Nat) : Nat := min (max ((len + 15) / 16 * 32) 32) 8192
def filt (ks : List (List UInt8)) : List UInt8 := (rowL (filtN ks.length) ks).map fun n => UInt8.ofNat n.toNat
theorem wsize {m : Nat} (h : m ≤ 1048576) : IntKind.i64.wrap (IntKind.i64.wrap ((IntKind.i64.wrap ((m : Int) + 15)).tdiv 16) * 32) = (((m + 15) / 16 * 32 : Nat) : Int) := by
 rw [y17q (x := (m : Int) + 15) (by omega) (by omega), Int.tdiv_eq_ediv_of_nonneg (by omega), y17q (x := ((m : Int) + 15) / 16) (by omega) (by omega), y17q (by omega) (by omega)]
 omega
theorem specFilter (ks : List (List UInt8)) (hk : Keys ks) : F_u12f ks = some (filt ks) := by
 have h1 := hk.1
 have e16 : (!16 == 0) = true := by decide
 unfold F_u12f
 rw [e16, brT, wsize h1]
 have hn : 0 < filtN ks.length := by unfold filtN; omega
 have hn2 : filtN ks.length ≤ 8192 := by unfold filtN; omega
 have key : (bnd (br (decide ((((ks.length + 15) / 16 * 32 : Nat) : Int) < 32)) (some (ks, 32)) (some (ks, (((ks.length + 15) / 16 * 32 : Nat) : Int)))) fun y1 => br (decide (y1.2 > 8192)) (some (y1.1, 8192)) (some (y1.1, y1.2))) = some (ks, ((filtN ks.length : Nat) : Int)) := by
  unfold filtN
  by_cases c1 : (((ks.length + 15) / 16 * 32 : Nat) : Int) < 32
  ·rw [y2q c1]
   show br (decide ((32 : Int) > 8192)) (some (ks, (8192 : Int))) (some (ks, (32 : Int))) = _
   rw [y11q (by omega)]
   show some (ks, (32 : Int)) = _
   congr 2; omega
  ·rw [y11q c1]
   show br (decide ((((ks.length + 15) / 16 * 32 : Nat) : Int) > 8192)) (some (ks, (8192 : Int))) (some (ks, (((ks.length + 15) / 16 * 32 : Nat) : Int))) = _
   by_cases c2 : (((ks.length + 15) / 16 * 32 : Nat) : Int) > 8192
   ·rw [y2q c2]
    show some (ks, (8192 : Int)) = _
    congr 2; omega
   ·rw [y11q c2]
    show some (ks, (((ks.length + 15) / 16 * 32 : Nat) : Int)) = _
    congr 2; omega
 have assoc : ∀ {α β γ : Type} (m : Option α) (f : α → Option β) (g : β → Option γ), bnd m (fun x => bnd (f x) g) = bnd (bnd m f) g := by
  intro α β γ m f g; cases m <;> rfl
 rw [assoc, key]
 show br (((filtN ks.length : Nat) : Int) == ((filtN ks.length : Nat) : Int)) _ _ = _
 have ee : (((filtN ks.length : Nat) : Int) == ((filtN ks.length : Nat) : Int)) = true := by simp
 rw [ee, brT, y2q (by show 0 ≤ ((filtN ks.length : Nat) : Int); omega), y2q (by show ((filtN ks.length : Nat) : Int) ≤ _; unfold capN; omega)]
 show bnd (F_u12f_l0 ks ((filtN ks.length : Nat) : Int) (List.replicate (((filtN ks.length : Nat) : Int).toNat) (Ty.int IntKind.u8).zero) 0) _ = _
 rw [Int.toNat_natCast, y127q (specRow ks hk _ hn hn2)]
 rfl
theorem implFilter (ks : List (List UInt8)) (hk : Keys ks) : F_u44f ks = some (filt ks) := by
 have h1 := hk.1
 have e16 : (!16 == 0) = true := by decide
 unfold F_u44f
 have hn : 0 < filtN ks.length := by unfold filtN; omega
 have hn2 : filtN ks.length ≤ 8192 := by unfold filtN; omega
 have em : min (max (((ks.length + 15) / 16 * 32 : Nat) : Int) 32) 8192 = ((filtN ks.length : Nat) : Int) := by unfold filtN; omega
 rw [e16, brT, wsize h1, em]
 have ee : (((filtN ks.length : Nat) : Int) == ((filtN ks.length : Nat) : Int)) = true := by simp
 rw [ee, brT, y2q (by omega), y2q (by unfold capN; omega), Int.toNat_natCast, y127q (implRow ks hk _ hn hn2)]
 rfl
end Go.Ev.T1
