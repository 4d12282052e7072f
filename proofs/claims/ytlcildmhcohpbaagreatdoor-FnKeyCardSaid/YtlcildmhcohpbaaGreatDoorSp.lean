/-
  The reference's draws: spoil.
-/
import Derived.Test.YtlcildmhcohpbaaGreatDoorPk
namespace Go.Proofs.YtlcildmhcohpbaaGreatDoor
open Go.RowKit
set_option linter.unusedSimpArgs false
set_option linter.unusedVariables false
namespace Dr
def marks : ByteArray := ⟨#[32, 10, 48, 97, 45, 110, 44, 58, 93, 255, 40, 120, 126, 49, 128, 225, 59]⟩
set_option maxHeartbeats 4000000 in
theorem spoil_ (w : World) (p : Nat) (t : ByteArray) (hs : t.size ≤ 1000) (hR : Rd w p) :
    Calls Tryz.prog 30 #[.pointer (some ⟨p, 0, none⟩), .string t] w fun e w' => ∃ s : ByteArray, e = .returned (.string s) ∧ s.size ≤ t.size + 1 ∧ Rd w' p ∧ Below p w w' := by
  have hp := hR.lt
  have hpw : p ≤ w.heap.size := Nat.le_of_lt hp
  have hB0 : Below p w w := Below.refl _ _
  have hnb : (t.size : Int) + 1 ≤ 9223372036854775807 := by omega
  go_enter Tryz.func30, Tryz.ntmps30
  go_wp2_with fail
  refine (n_ _ _ _ hnb hR).mono ?_
  rintro e w2 ⟨v, rfl, h0, h1, hR2, hG2⟩
  have hB2 := below_grown hB0 (Nat.le_of_lt hp) hG2
  obtain ⟨k, rfl⟩ := Int.eq_ofNat_of_zero_le h0
  have hk : k ≤ t.size := by omega
  clear h0 h1 hG2 hnb hR
  go_wp2_with fail
  refine (n_ _ _ _ (by decide) hR2).mono ?_
  rintro e w3 ⟨v, rfl, h0, h1, hR3, hG3⟩
  have hB3 := below_grown hB2 (Nat.le_of_lt hp) hG3
  obtain ⟨j, rfl⟩ := Int.eq_ofNat_of_zero_le h0
  have hj : j < 17 := by omega
  have hx := Hx.run_index_str (P := Tryz.prog) Tryz.underlying9 marks j hj .i64 (j : Int) rfl
  have b0 := Wd.bt_lo marks j
  have b1 := Wd.bt_hi marks j
  unfold marks at hx
  generalize Wd.bt _ j = x at *
  clear h0 h1 hG3 hR2 hB2
  have hcv : (convert 25 9 (.slice (some ⟨w3.heap.size, 0, none⟩) 1 1)).run Tryz.prog (w3.alloc (.cells #[.int .u8 x] 5)) = .ok (.string (strOfNums [x])) _ :=
    run_convert_bytes_arg _ 25 5 Tryz.underlying25 Tryz.underlying5 w3.heap.size 0 1 1 [x] rfl (fun i hi => by
      obtain rfl : i = 0 := by omega
      exact cell_of_row _ w3.heap.size 0 _ _ (0, 0) (heap_alloc_new w3 _)) 9 Tryz.underlying9
  have hR4 := hR3.alloc (.cells #[.int .u8 x] 5)
  have hB4 : Below p w (w3.alloc (.cells #[.int .u8 x] 5)) := hB3.alloc (Nat.le_of_lt hR3.lt) _
  have hc1 : (strOfNums [x]).size = 1 := by rw [strOfNums_size]; rfl
  generalize strOfNums [x] = c at *
  have hlt3 := hR3.lt
  clear b0 b1 hj hp hB3 hR3
  by_cases hkt : k = t.size
  · subst hkt
    clear hk
    go_wp2_with fail
    clear hcv hx
    generalize w3.alloc (.cells #[.int .u8 x] 5) = w4 at *
    go_quiet (fail)
    have hR5 := hR4.drewN nq
    have hB5 := below_drewN hB4 nq
    go_wp2
    go_ret
    exact ⟨_, rfl, by simp; omega, hR5, hB5⟩
  · have he : ((k : Int) == (t.size : Int)) = false := by simp; omega
    have hk1 : (k : Int) < (t.size : Int) := by omega
    have hk2 : (k : Int) + 1 ≤ (t.size : Int) := by omega
    go_wp2_with fail
    clear hcv hx
    generalize w3.alloc (.cells #[.int .u8 x] 5) = w4 at *
    refine (one_ _ _ _ (by decide) hR4).mono ?_
    rintro e w5 ⟨b, rfl, hR5, hG5⟩
    have hB5 := below_grown hB4 (by assumption) hG5
    clear hR4 hB4 hG5
    cases b with
    | true =>
      go_wp2_with fail
      go_quiet (fail)
      have hR6 := hR5.drewN nq
      have hB6 := below_drewN hB5 nq
      go_wp2
      go_ret
      exact ⟨_, rfl, by simp; omega, hR6, hB6⟩
    | false =>
      go_wp2_with fail
      refine (one_ _ _ _ (by decide) hR5).mono ?_
      rintro e w6 ⟨b, rfl, hR6, hG6⟩
      have hB6 := below_grown hB5 (by assumption) hG6
      clear hR5 hB5 hG6
      cases b with
      | true =>
        go_wp2_with fail
        go_quiet (fail)
        have hR7 := hR6.drewN nq
        have hB7 := below_drewN hB6 nq
        go_wp2
        go_ret
        exact ⟨_, rfl, by simp; omega, hR7, hB7⟩
      | false =>
        go_wp2_with fail
        go_quiet (fail)
        have hR7 := hR6.drewN nq
        have hB7 := below_drewN hB6 nq
        go_wp2
        go_ret
        exact ⟨_, rfl, by simp; omega, hR7, hB7⟩
end Dr
end Go.Proofs.YtlcildmhcohpbaaGreatDoor
