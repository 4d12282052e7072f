/-
  The reference's draws: the source of a code.
-/
import Derived.Test.YtlcildmhcohpbaaGreatDoorDs
namespace Go.Proofs.YtlcildmhcohpbaaGreatDoor
open Go.RowKit
set_option linter.unusedSimpArgs false
set_option linter.unusedVariables false
namespace Dr
set_option maxHeartbeats 4000000 in
set_option maxRecDepth 100000 in
theorem source_ (w : World) (ao : Option Addr) (n cap : Nat) (hC : Code w w.heap.size ao n) :
    Calls Tryz.prog 26 #[.slice ao n cap] w fun e w' => ∃ p : Nat, e = .returned (.pointer (some ⟨p, 0, none⟩)) ∧ w.heap.size ≤ p ∧ Rd w' p ∧ Below w.heap.size w w' := by
  have hS : Src (w.alloc (.cells #[.slice ao n cap, .int .i64 ((0 : Nat) : Int), .int .u64 88172645463325252, .int .i64 0] 55)) w.heap.size ao n cap 0 88172645463325252 0 :=
    ⟨heap_alloc_new w _, hC.keep (fun g hg => Below.heap_alloc w _ g hg), Nat.zero_le _, by omega, by omega⟩
  have hB : Below w.heap.size w (w.alloc (.cells #[.slice ao n cap, .int .i64 ((0 : Nat) : Int), .int .u64 88172645463325252, .int .i64 0] 55)) := (Below.refl _ _).alloc (Nat.le_refl _) _
  have hle := hC.le
  go_enter Tryz.func26, Tryz.ntmps26
  go_wp2
  go_loopw [4] (fun i wr => ∃ (m : Nat) (mix : Int), m ≤ n ∧ i = .int .i64 (m : Int) ∧ Src wr w.heap.size ao n cap 0 mix 0 ∧ Below w.heap.size w wr)
    (fun i _ => n - (intOf i).toNat)
  case atStart => exact ⟨0, _, Nat.zero_le _, rfl, hS, hB⟩
  case round =>
    clear hS hB
    obtain ⟨m, mix, hm, rfl, hS, hB⟩ := hrel
    by_cases hlt : m < n ∧ m < 64
    · have h1 : (m : Int) < n := by omega
      have h2 : (m : Int) < 64 := by omega
      go_wp2
      obtain ⟨w2, hw2⟩ : ∃ w2, wr.drew = w2 := ⟨_, rfl⟩
      have hS2 : Src w2 w.heap.size ao n cap 0 mix 0 := by rw [← hw2]; exact hS.drew
      have hB2 : Below w.heap.size w w2 := by rw [← hw2]; exact hB.drew
      obtain ⟨g, off, x, rfl, hg, hx0, hx1, hcx⟩ := hS2.code.at_ m hlt.1
      have c2 := hS2.c2
      have hz := hS2.z 2
      have wx : IntKind.u64.wrap x = x := by rw [IntKind.wrap_u64]; omega
      have wm : IntKind.i64.wrap (m : Int) = (m : Int) := IntWalk.i64_in _ (by omega)
      have hm0 : (0 : Int) ≤ (m : Int) := by omega
      have htn : (m : Int).toNat = m := Int.toNat_natCast m
      have hlt2 := hlt.1
      refine region_tail 14 (by kernel_rfl) (by kernel_rfl) w2 hw2 ?_
      clear hw2 hS hB
      simp only [List.take_succ_cons, List.take_zero, List.drop_succ_cons, List.drop_zero]
      repeat still_step
      refine wpStill_nil ?_
      go_wp2
      go_roundw
      case rel => exact ⟨m + 1, _, hlt.1, by go_num, hS2.set2 _ (by rw [IntKind.wrap_u64]; omega) (by rw [IntKind.wrap_u64]; omega), hB2.setCell (Nat.le_refl _) _⟩
      case measure => simp [intOf]; omega
    · have hd : ((m : Int) < n ∧ (m : Int) < 64) = False := by simp; omega
      have hlt2 : ¬ ((m : Int) < n) ∨ ((m : Int) < n ∧ ¬ (m : Int) < 64) := by omega
      have c3 := hS.c3
      have hz := hS.z 3
      have h1 : Rd (wr.setCell ⟨w.heap.size, 3, none⟩ (.int .i64 ((n : Int) / 20))) w.heap.size := ⟨_, _, _, _, _, _, hS.set3 _⟩
      have h2 : Rd ((wr.setCell ⟨w.heap.size, 3, none⟩ (.int .i64 ((n : Int) / 20))).setCell ⟨w.heap.size, 3, none⟩ (.int .i64 12)) w.heap.size := ⟨_, _, _, _, _, _, (hS.set3 _).set3 _⟩
      have b1 : Below w.heap.size w (wr.setCell ⟨w.heap.size, 3, none⟩ (.int .i64 ((n : Int) / 20))) := hB.setCell (Nat.le_refl _) _
      have b2 := b1.setCell (p := ⟨w.heap.size, 3, none⟩) (Nat.le_refl _) (.int .i64 12)
      clear hd hlt hS hB hC
      by_cases h12 : (12 : Int) < (n : Int) / 20
      · rcases hlt2 with hl | ⟨hl, hl2⟩
        · go_wp2
          go_ret
          exact ⟨_, rfl, Nat.le_refl _, h2, b2⟩
        · go_wp2
          go_ret
          exact ⟨_, rfl, Nat.le_refl _, h2, b2⟩
      · rcases hlt2 with hl | ⟨hl, hl2⟩
        · go_wp2
          go_ret
          exact ⟨_, rfl, Nat.le_refl _, h1, b1⟩
        · go_wp2
          go_ret
          exact ⟨_, rfl, Nat.le_refl _, h1, b1⟩
end Dr
end Go.Proofs.YtlcildmhcohpbaaGreatDoor
