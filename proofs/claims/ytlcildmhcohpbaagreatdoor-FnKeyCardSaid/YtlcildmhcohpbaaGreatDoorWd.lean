/-
  SHA-256's schedule and rounds as plain functions on whole numbers.
-/
import Derived.Test.YtlcildmhcohpbaaGreatDoorRt
namespace Go.Proofs.YtlcildmhcohpbaaGreatDoor
set_option linter.unusedSimpArgs false
set_option linter.unusedVariables false
namespace Wd
def bt (s : ByteArray) (i : Nat) : Int := ((s.data.toList.getD i 0).toNat : Int)
theorem bt_lo (s : ByteArray) (i : Nat) : 0 ≤ bt s i := by unfold bt; omega
theorem bt_hi (s : ByteArray) (i : Nat) : bt s i < 256 := by
  unfold bt
  have := (s.data.toList.getD i 0).toNat_lt
  omega
/-- the word of four bytes, the first t of them taken in -/
def acc (s : ByteArray) (i : Nat) : Nat → Int
  | 0 => 0
  | t + 1 => acc s i t * 256 + bt s (4 * i + t)
theorem acc_bd (s : ByteArray) (i t : Nat) : 0 ≤ acc s i t ∧ acc s i t < 256 ^ t := by
  induction t with
  | zero => simp [acc]
  | succ t ih =>
    have h0 := bt_lo s (4 * i + t)
    have h1 := bt_hi s (4 * i + t)
    rw [acc, Int.pow_succ]
    omega
def word (s : ByteArray) (i : Nat) : Int := acc s i 4
def s0 (x : Int) : Int := bits .xor .u32 (bits .xor .u32 (Rt.rot x 7) (Rt.rot x 18)) (x / 8)
def s1 (x : Int) : Int := bits .xor .u32 (bits .xor .u32 (Rt.rot x 17) (Rt.rot x 19)) (x / 1024)
def nxt (a b c d : Int) : Int := (a + s0 b + c + s1 d) % 4294967296
def Wl (m : Nat → Int) : Nat → List Int
  | 0 => []
  | n + 1 => Wl m n ++ [if n < 16 then m n else nxt ((Wl m n).getD (n - 16) 0) ((Wl m n).getD (n - 15) 0) ((Wl m n).getD (n - 7) 0) ((Wl m n).getD (n - 2) 0)]
theorem Wl_len (m : Nat → Int) (n : Nat) : (Wl m n).length = n := by
  induction n with
  | zero => rfl
  | succ n ih => rw [Wl, List.length_append, ih]; rfl
theorem getD_left (l r : List Int) (i : Nat) (h : i < l.length) : (l ++ r).getD i 0 = l.getD i 0 := by
  simp [List.getD_eq_getElem?_getD, List.getElem?_append_left h]
theorem getD_last (l : List Int) (x : Int) (i : Nat) (h : l.length = i) : (l ++ [x]).getD i 0 = x := by
  subst h
  simp [List.getD_eq_getElem?_getD]
def W (m : Nat → Int) (i : Nat) : Int := (Wl m (i + 1)).getD i 0
theorem Wl_at (m : Nat → Int) (n i : Nat) (h : i < n) : (Wl m n).getD i 0 = W m i := by
  induction n with
  | zero => omega
  | succ n ih =>
    by_cases e : i = n
    · subst e; rfl
    · rw [Wl, getD_left _ _ _ (by rw [Wl_len]; omega)]
      exact ih (by omega)
theorem W_lo (m : Nat → Int) (i : Nat) (h : i < 16) : W m i = m i := by
  unfold W
  rw [Wl, getD_last _ _ _ (Wl_len m i), if_pos h]
theorem W_hi (m : Nat → Int) (i : Nat) (h : ¬ i < 16) : W m i = nxt (W m (i - 16)) (W m (i - 15)) (W m (i - 7)) (W m (i - 2)) := by
  rw [W, Wl, getD_last _ _ _ (Wl_len m i), if_neg h]
  rw [Wl_at _ _ _ (by omega), Wl_at _ _ _ (by omega), Wl_at _ _ _ (by omega), Wl_at _ _ _ (by omega)]
/-- a word shifted by a byte, and a byte put behind it -/
theorem or_byte (a b : Int) (h0 : 0 ≤ a) (h1 : a < 16777216) (h2 : 0 ≤ b) (h3 : b < 256) : bits .or .u32 (a * 256) b = a * 256 + b := by
  rw [u32_or _ _ (by omega) (by omega) (by omega) (by omega)]
  obtain ⟨A, rfl⟩ := Int.eq_ofNat_of_zero_le h0
  obtain ⟨B, rfl⟩ := Int.eq_ofNat_of_zero_le h2
  have e : ((A : Int) * 256).toNat = A <<< 8 := by rw [Nat.shiftLeft_eq]; omega
  rw [e, Int.toNat_natCast, ← Nat.shiftLeft_add_eq_or_of_lt (by omega), Nat.shiftLeft_eq]
  omega
end Wd
end Go.Proofs.YtlcildmhcohpbaaGreatDoor
