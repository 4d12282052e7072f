/-
  SHA-256's rounds as plain functions on whole numbers.
-/
import Derived.Test.YtlcildmhcohpbaaGreatDoorWd
namespace Go.Proofs.YtlcildmhcohpbaaGreatDoor
set_option linter.unusedSimpArgs false
set_option linter.unusedVariables false
namespace Wd
structure St where
  a : Int
  b : Int
  c : Int
  d : Int
  e : Int
  f : Int
  g : Int
  h : Int
def St.at (s : St) : Nat → Int
  | 0 => s.a
  | 1 => s.b
  | 2 => s.c
  | 3 => s.d
  | 4 => s.e
  | 5 => s.f
  | 6 => s.g
  | 7 => s.h
  | _ => 0
def S1 (e : Int) : Int := bits .xor .u32 (bits .xor .u32 (Rt.rot e 6) (Rt.rot e 11)) (Rt.rot e 25)
def S0 (a : Int) : Int := bits .xor .u32 (bits .xor .u32 (Rt.rot a 2) (Rt.rot a 13)) (Rt.rot a 22)
def ch (e f g : Int) : Int := bits .xor .u32 (bits .and .u32 e f) (bits .and .u32 (bits .xor .u32 IntKind.u32.max e) g)
def maj (a b c : Int) : Int := bits .xor .u32 (bits .xor .u32 (bits .and .u32 a b) (bits .and .u32 a c)) (bits .and .u32 b c)
def T1 (e f g h k w : Int) : Int := h + S1 e + ch e f g + k + w
def T2 (a b c : Int) : Int := S0 a + maj a b c
/-- one round -/
def rnd (s : St) (k w : Int) : St := ⟨(T1 s.e s.f s.g s.h k w + T2 s.a s.b s.c) % 4294967296, s.a, s.b, s.c, (s.d + T1 s.e s.f s.g s.h k w) % 4294967296, s.e, s.f, s.g⟩
def rounds (K V : Nat → Int) (s : St) : Nat → St
  | 0 => s
  | n + 1 => rnd (rounds K V s n) (K n) (V n)
def plus (s v : St) : St := ⟨(s.a + v.a) % 4294967296, (s.b + v.b) % 4294967296, (s.c + v.c) % 4294967296, (s.d + v.d) % 4294967296, (s.e + v.e) % 4294967296, (s.f + v.f) % 4294967296, (s.g + v.g) % 4294967296, (s.h + v.h) % 4294967296⟩
theorem plus_at (s v : St) (i : Nat) (h : i < 8) : (plus s v).at i = (s.at i + v.at i) % 4294967296 := by
  match i, h with
  | 0, _ => rfl
  | 1, _ => rfl
  | 2, _ => rfl
  | 3, _ => rfl
  | 4, _ => rfl
  | 5, _ => rfl
  | 6, _ => rfl
  | 7, _ => rfl
/-- a block of 64 bytes taken in -/
def blk (K : Nat → Int) (st : St) (s : ByteArray) : St := plus st (rounds K (W (word s)) st 64)
end Wd
end Go.Proofs.YtlcildmhcohpbaaGreatDoor
