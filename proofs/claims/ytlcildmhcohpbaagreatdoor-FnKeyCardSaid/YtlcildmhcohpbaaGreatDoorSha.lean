/-
  SHA-256 and HMAC as plain functions on whole numbers and lists of bytes, and the plain facts that the walks lean on.
-/
import Derived.Laws.FloatArith
import Derived.Laws.BitsAllLaws
import Derived.KernelRfl
namespace Go.Proofs.YtlcildmhcohpbaaGreatDoor.Sha
open Go

/-! ### floats: what math.Sqrt, math.Cbrt, math.Floor and the conversion come to, on bits -/
def fadd (x y : Nat) : Option Nat := FloatKind.f64.format.add x y
def fsub (x y : Nat) : Option Nat := FloatKind.f64.format.sub x y
def fmul (x y : Nat) : Option Nat := FloatKind.f64.format.mul x y
def fdiv (x y : Nat) : Option Nat := FloatKind.f64.format.div x y
def fsqrt (x : Nat) : Option Nat := FloatKind.f64.format.sqrt x
def ffloor (x : Nat) : Nat := FloatKind.f64.encode ((FloatKind.f64.decode x).integral .down)
/-- neither a NaN nor an infinity, normal, and more than zero -/
def fpos (x : Nat) : Bool := (FloatKind.f64.format.order x x == some .eq) && !(FloatKind.f64.format.order x 0 == some .eq) && !(FloatKind.f64.format.order x 0 == some .lt)
  && !(FloatKind.f64.format.order x 9218868437227405311 == some .gt) && !(FloatKind.f64.format.order x 4503599627370496 == some .lt) && decide (x < 9223372036854775808)
def notNan (x : Nat) : Bool := !(FloatKind.f64.decode x).isNaN
/-- math.cbrt at a positive normal number, from t0 on -/
def cbrt (x : Nat) : Option Nat := do
  guard (fpos x = true)
  let t0 := x / 3 + 3071306043645493248
  let t1 ← fmul t0 t0
  let r0 ← fdiv t1 x
  let r1 ← fmul r0 t0
  let s0 ← fadd 4603064841997850097 r1
  let s1 ← fadd s0 4609048195788499471
  let s2 ← fdiv 13827900089180538932 s0
  let s3 ← fadd s1 s2
  let s4 ← fdiv 4609916747145206638 s3
  let s5 ← fadd 4600105333671292343 s4
  let t2 ← fmul t0 s5
  guard (t2 < 9223372036854775808)
  let t3 := (t2 &&& 18446744072635809792) + 1073741824
  let q ← fmul t3 t3
  let r2 ← fdiv x q
  let w ← fadd t3 t3
  let d ← fsub r2 t3
  let e ← fadd w r2
  let r3 ← fdiv d e
  let m ← fmul t3 r3
  fadd t3 m
/-- the first 32 bits of the fractional part -/
def frac (x : Nat) : Option Int := do
  guard (notNan x = true)
  let d ← fsub x (ffloor x)
  let m ← fmul d 4751297606875873280
  guard (notNan m = true)
  floatToIntVal .f64 (ffloor m) .u32
def ofNat (p : Nat) : Nat := floatOfInt .f64 (p : Int)

/-- the first 64 primes -/
def primes64 : List Nat := [2, 3, 5, 7, 11, 13, 17, 19, 23, 29, 31, 37, 41, 43, 47, 53, 59, 61, 67, 71, 73, 79, 83, 89, 97, 101, 103, 107, 109, 113, 127, 131, 137, 139, 149, 151, 157, 163, 167, 173, 179, 181, 191, 193, 197, 199, 211, 223, 227, 229, 233, 239, 241, 251, 257, 263, 269, 271, 277, 281, 283, 293, 307, 311]
def startL : List Int := [0x6a09e667, 0xbb67ae85, 0x3c6ef372, 0xa54ff53a, 0x510e527f, 0x9b05688c, 0x1f83d9ab, 0x5be0cd19]
def keysL : List Int := [
    0x428a2f98, 0x71374491, 0xb5c0fbcf, 0xe9b5dba5, 0x3956c25b, 0x59f111f1, 0x923f82a4, 0xab1c5ed5,
    0xd807aa98, 0x12835b01, 0x243185be, 0x550c7dc3, 0x72be5d74, 0x80deb1fe, 0x9bdc06a7, 0xc19bf174,
    0xe49b69c1, 0xefbe4786, 0x0fc19dc6, 0x240ca1cc, 0x2de92c6f, 0x4a7484aa, 0x5cb0a9dc, 0x76f988da,
    0x983e5152, 0xa831c66d, 0xb00327c8, 0xbf597fc7, 0xc6e00bf3, 0xd5a79147, 0x06ca6351, 0x14292967,
    0x27b70a85, 0x2e1b2138, 0x4d2c6dfc, 0x53380d13, 0x650a7354, 0x766a0abb, 0x81c2c92e, 0x92722c85,
    0xa2bfe8a1, 0xa81a664b, 0xc24b8b70, 0xc76c51a3, 0xd192e819, 0xd6990624, 0xf40e3585, 0x106aa070,
    0x19a4c116, 0x1e376c08, 0x2748774c, 0x34b0bcb5, 0x391c0cb3, 0x4ed8aa4a, 0x5b9cca4f, 0x682e6ff3,
    0x748f82ee, 0x78a5636f, 0x84c87814, 0x8cc70208, 0x90befffa, 0xa4506ceb, 0xbef9a3f7, 0xc67178f2]
theorem keys_eq : primes64.map (fun p => (cbrt (ofNat p)).bind frac) = keysL.map some := by decide +kernel
theorem start_eq : (primes64.take 8).map (fun p => (fsqrt (ofNat p)).bind frac) = startL.map some := by decide +kernel
end Go.Proofs.YtlcildmhcohpbaaGreatDoor.Sha
