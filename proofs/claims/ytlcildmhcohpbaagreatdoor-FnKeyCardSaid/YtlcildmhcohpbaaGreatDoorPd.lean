/-
  SHA-256's padding, and the digest of a text, as plain functions.
-/
import Derived.Test.YtlcildmhcohpbaaGreatDoorBase
import Derived.Test.YtlcildmhcohpbaaGreatDoorSt
import Derived.Test.YtlcildmhcohpbaaGreatDoorSha
import Derived.Laws.BytesArg
namespace Go.Proofs.YtlcildmhcohpbaaGreatDoor
set_option linter.unusedSimpArgs false
set_option linter.unusedVariables false
namespace Pd
def zs (c : Nat) : ByteArray := ⟨(List.replicate c (0 : UInt8)).toArray⟩
theorem zs_size (c : Nat) : (zs c).size = c := by simp [zs, ByteArray.size]
/-- the first k bytes of a length in bits, put behind a text -/
def T (p : ByteArray) (n : Nat) : Nat → ByteArray
  | 0 => p
  | k + 1 => T p n k ++ strOfNums [(n : Int) * 8 / 2 ^ (8 * (7 - k)) % 256]
theorem T_succ (p : ByteArray) (n k : Nat) : T p n (k + 1) = T p n k ++ strOfNums [(n : Int) * 8 / 2 ^ (8 * (7 - k)) % 256] := rfl
theorem T_size (p : ByteArray) (n k : Nat) : (T p n k).size = p.size + k := by
  induction k with
  | zero => rfl
  | succ k ih =>
    rw [T_succ, ByteArray.size_append, ih]
    rfl
def pad (s : ByteArray) : ByteArray := T (s ++ ⟨#[128]⟩ ++ zs ((120 - ((s.size : Int) + 1)) % 64).toNat) s.size 8
theorem pad_size (s : ByteArray) : (pad s).size = s.size + 9 + ((120 - ((s.size : Int) + 1)) % 64).toNat := by
  unfold pad
  rw [T_size, ByteArray.size_append, ByteArray.size_append, zs_size]
  have : (⟨#[128]⟩ : ByteArray).size = 1 := rfl
  omega
/-- how many blocks -/
def nb (s : ByteArray) : Nat := (pad s).size / 64
theorem nb_mul (s : ByteArray) : (pad s).size = 64 * nb s := by
  unfold nb
  have := pad_size s
  omega
/-- the state when j blocks are taken in -/
def stAt (K : Nat → Int) (p : ByteArray) (st : Wd.St) : Nat → Wd.St
  | 0 => st
  | j + 1 => Wd.blk K (stAt K p st j) (p.extract (64 * j) (64 * j + 64))
def start : Wd.St := ⟨0x6a09e667, 0xbb67ae85, 0x3c6ef372, 0xa54ff53a, 0x510e527f, 0x9b05688c, 0x1f83d9ab, 0x5be0cd19⟩
def K (i : Nat) : Int := Sha.keysL.getD i 0
def four (n : Int) : List Int := [n / 16777216 % 256, n / 65536 % 256, n / 256 % 256, n % 256]
/-- the bytes of the first i words -/
def out (st : Wd.St) : Nat → List Int
  | 0 => []
  | i + 1 => out st i ++ four (st.at i)
theorem out_len (st : Wd.St) (i : Nat) : (out st i).length = 4 * i := by
  induction i with
  | zero => rfl
  | succ i ih =>
    rw [out, List.length_append, ih]
    simp [four]
    omega
def digest (s : ByteArray) : ByteArray := strOfNums (out (stAt K (pad s) start (nb s)) 8)
theorem digest_size (s : ByteArray) : (digest s).size = 32 := by
  unfold digest
  rw [strOfNums_size, out_len]
theorem start_at (j : Nat) (h : j < 8) : Sha.startL.getD j 0 = start.at j := by
  match j, h with
  | 0, _ => rfl
  | 1, _ => rfl
  | 2, _ => rfl
  | 3, _ => rfl
  | 4, _ => rfl
  | 5, _ => rfl
  | 6, _ => rfl
  | 7, _ => rfl
/-- a string's part of a part -/
theorem ext_ext (p : ByteArray) (a : Nat) (h : a + 64 ≤ p.size) : (p.extract a p.size).extract 0 64 = p.extract a (a + 64) := by
  rw [ByteArray.extract_extract]
  congr 1
  omega
theorem ext_tail (p : ByteArray) (a : Nat) (h : a + 64 ≤ p.size) : (p.extract a p.size).extract 64 (p.extract a p.size).size = p.extract (a + 64) p.size := by
  rw [ByteArray.extract_extract, ByteArray.size_extract]
  congr 1
  omega
end Pd
end Go.Proofs.YtlcildmhcohpbaaGreatDoor
