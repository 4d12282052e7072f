/-
  SHA-256's words as plain functions on whole numbers; the walks of the program's right and the reference's l02Turn.
-/
import Derived.Test.YtlcildmhcohpbaaGreatDoorProg
import Derived.Test.YtlcildmhcohpbaaGreatDoorBase
import Derived.WalkKit
import Derived.WalkSpells
import Derived.WalkLawsBesides
import Derived.Laws.BitsAllLaws
namespace Go.Proofs.YtlcildmhcohpbaaGreatDoor
open Go.RowKit
set_option linter.unusedSimpArgs false
set_option linter.unusedVariables false
namespace Rt

/-- x turned right by n places -/
def rot (x n : Int) : Int := bits .or .u32 (x / 2 ^ n.toNat) (x * 2 ^ (32 - n).toNat % 4294967296)

theorem bits_comm_or (a b : Int) : bits .or .u32 a b = bits .or .u32 b a := by
  show IntKind.u32.wrap ((BitVec.ofInt 32 a ||| BitVec.ofInt 32 b).toNat : Int) = IntKind.u32.wrap ((BitVec.ofInt 32 b ||| BitVec.ofInt 32 a).toNat : Int)
  rw [BitVec.or_comm]

theorem mask31 (n : Int) (h1 : 1 ≤ n) (h2 : n ≤ 31) : bits .and .u64 (IntKind.u64.wrap (-n)) 31 = 32 - n := by
  have e : IntKind.u64.wrap (-n) = 18446744073709551616 - n := by rw [IntKind.wrap_u64]; omega
  rw [e]
  obtain ⟨m, hm⟩ : ∃ m : Nat, (m : Int) = 18446744073709551616 - n := ⟨(18446744073709551616 - n).toNat, by omega⟩
  rw [← hm, u64_and _ _ (by omega) (by omega) (by omega) (by omega), Int.toNat_natCast]
  have e2 : (31 : Int).toNat = 2 ^ 5 - 1 := rfl
  rw [e2, Nat.and_two_pow_sub_one_eq_mod]
  omega

theorem turn_ (x n : Int) (w : World) (h1 : 1 ≤ n) (h2 : n ≤ 31) : Calls Tryz.prog 40 #[.int .u32 x, .int .u64 n] w fun e w' => e = .returned (.int .u32 (rot x n)) ∧ w = w' := by
  have h0 : 0 ≤ n := by omega
  have h3 : 0 ≤ 32 - n := by omega
  go_enter Tryz.func40, Tryz.ntmps40
  go_wp2
  go_ret
  exact ⟨rfl, rfl⟩

theorem left_ (x n : Int) (w : World) (h1 : 1 ≤ n) (h2 : n ≤ 31) : Calls Tryz.prog 84 #[.int .u32 x, .int .i64 (-n)] w fun e w' => e = .returned (.int .u32 (rot x n)) ∧ w = w' := by
  have hm := mask31 n h1 h2
  have h0 : 0 ≤ n := by omega
  have h3 : 0 ≤ 32 - n := by omega
  go_enter Tryz.func84, Tryz.ntmps84
  go_wp2
  go_ret
  refine ⟨ret_int ?_, rfl⟩
  unfold rot
  rw [bits_comm_or, show 32 - (32 - n) = n from by omega]

theorem right_ (x n : Int) (w : World) (h1 : 1 ≤ n) (h2 : n ≤ 31) : Calls Tryz.prog 64 #[.int .u32 x, .int .i64 n] w fun e w' => e = .returned (.int .u32 (rot x n)) ∧ w = w' := by
  go_enter Tryz.func64, Tryz.ntmps64
  go_wp2_with (go_at_call 84; refine (left_ _ _ _ h1 h2).mono ?_; rintro e w' ⟨rfl, rfl⟩)
  go_ret
  exact ⟨rfl, rfl⟩
end Rt
end Go.Proofs.YtlcildmhcohpbaaGreatDoor
