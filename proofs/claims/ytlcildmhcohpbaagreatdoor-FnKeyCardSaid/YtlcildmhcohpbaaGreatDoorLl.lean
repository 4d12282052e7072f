/-
  The padding of a text as a list of numbers, and its blocks.
-/
import Derived.Test.YtlcildmhcohpbaaGreatDoorRw
namespace Go.Proofs.YtlcildmhcohpbaaGreatDoor
open Go.RowKit
set_option linter.unusedSimpArgs false
set_option linter.unusedVariables false
namespace Ll
theorem str_append (a b : List Int) : strOfNums (a ++ b) = strOfNums a ++ strOfNums b := by
  apply ByteArray.ext
  apply Array.ext'
  simp [strOfNums, ByteArray.data_append]
def nums (s : ByteArray) : List Int := s.data.toList.map fun b => (b.toNat : Int)
theorem nums_len (s : ByteArray) : (nums s).length = s.size := by simp [nums]
theorem str_nums (s : ByteArray) : strOfNums (nums s) = s := by
  apply ByteArray.ext
  apply Array.ext'
  simp [strOfNums, nums, List.map_map, Function.comp_def]
/-- with the one bit, and c bytes of zero -/
def L (s : ByteArray) (c : Nat) : List Int := nums s ++ [128] ++ List.replicate c 0
theorem L_zero (s : ByteArray) : L s 0 = nums s ++ [128] := by simp [L]
theorem L_succ (s : ByteArray) (c : Nat) : L s (c + 1) = L s c ++ [0] := by
  simp [L, List.replicate_succ']
theorem L_len (s : ByteArray) (c : Nat) : (L s c).length = s.size + 1 + c := by simp [L, nums_len]; omega
theorem L_str (s : ByteArray) (c : Nat) : strOfNums (L s c) = s ++ ⟨#[128]⟩ ++ Pd.zs c := by
  unfold L
  rw [str_append, str_append, str_nums]
  congr 1
  apply ByteArray.ext
  apply Array.ext'
  simp [strOfNums, Pd.zs]
/-- how many bytes of zero -/
def z (s : ByteArray) : Nat := ((120 - ((s.size : Int) + 1)) % 64).toNat
/-- and i bytes of the length in bits -/
def M (s : ByteArray) : Nat → List Int
  | 0 => L s (z s)
  | i + 1 => M s i ++ [(s.size : Int) * 8 / 2 ^ (8 * (7 - i)) % 256]
theorem M_succ (s : ByteArray) (i : Nat) : M s (i + 1) = M s i ++ [(s.size : Int) * 8 / 2 ^ (8 * (7 - i)) % 256] := rfl
theorem M_str (s : ByteArray) (i : Nat) : strOfNums (M s i) = Pd.T (s ++ ⟨#[128]⟩ ++ Pd.zs (z s)) s.size i := by
  induction i with
  | zero => rw [M, Pd.T]; exact L_str s (z s)
  | succ i ih => rw [M_succ, str_append, ih, Pd.T_succ]
theorem M_pad (s : ByteArray) : strOfNums (M s 8) = Pd.pad s := by
  have h := M_str s 8
  unfold z at h
  unfold Pd.pad
  exact h
theorem M_len (s : ByteArray) (i : Nat) : (M s i).length = s.size + 1 + z s + i := by
  induction i with
  | zero => rw [M, L_len]; omega
  | succ i ih => rw [M_succ, List.length_append, ih]; simp; omega
theorem M_len8 (s : ByteArray) : (M s 8).length = 64 * Pd.nb s :=
  (strOfNums_size _).symm.trans ((congrArg ByteArray.size (M_pad s)).trans (Pd.nb_mul s))
theorem chunk (xs : List Int) (a n : Nat) : strOfNums ((xs.drop a).take n) = (strOfNums xs).extract a (a + n) := by
  apply ByteArray.ext
  apply Array.ext'
  rw [ByteArray.data_extract, Array.toList_extract, strOfNums_data, strOfNums_data]
  simp [List.extract, List.map_take, List.map_drop]
theorem getD_chunk (xs : List Int) (a n i : Nat) (h : i < n) : ((xs.drop a).take n).getD i 0 = xs.getD (a + i) 0 := by
  rw [List.getD_eq_getElem?_getD, List.getD_eq_getElem?_getD, List.getElem?_take, if_pos h, List.getElem?_drop]
theorem start_lo (j : Nat) (h : j < 8) : 0 ≤ Pd.start.at j ∧ Pd.start.at j < 4294967296 := by
  match j, h with
  | 0, _ => decide
  | 1, _ => decide
  | 2, _ => decide
  | 3, _ => decide
  | 4, _ => decide
  | 5, _ => decide
  | 6, _ => decide
  | 7, _ => decide
theorem stAt_lo (p : ByteArray) (n j : Nat) (h : j < 8) : 0 ≤ (Pd.stAt Pd.K p Pd.start n).at j ∧ (Pd.stAt Pd.K p Pd.start n).at j < 4294967296 := by
  cases n with
  | zero => exact start_lo j h
  | succ n =>
    show 0 ≤ (Wd.plus _ _).at j ∧ (Wd.plus _ _).at j < 4294967296
    rw [Wd.plus_at _ _ j h]
    omega
end Ll
end Go.Proofs.YtlcildmhcohpbaaGreatDoor
