/-
  The law's own lwPad.
-/
import Derived.Test.YtlcildmhcohpbaaPw
namespace Go.Proofs.Ytlcildmhcohpbaa
open Go.RowKit
set_option linter.unusedSimpArgs false
set_option linter.unusedVariables false
namespace Pw
set_option maxHeartbeats 2000000 in
set_option maxRecDepth 100000 in
theorem lw_ (s : ByteArray) (b : Int) (w : World) (hs : s.size ≤ 64) : Calls Try.prog 20 #[.string s, .int .u8 b] w fun e w' => e = .returned (.string (px s b)) ∧ Below w.heap.size w w' := by
  have hmk := make_
  have hcp := Lib.run_copy_row_string (P := Try.prog) (w.alloc (.cells zb64 5)) 36 9 3 5 w.heap.size 0 64 64 s zb64 5 Try.underlying36 (by kernel_rfl) (heap_alloc_new w _) hs (by rw [zb64_size]; omega)
  have hr0 : ((w.alloc (.cells zb64 5)).setRow w.heap.size (rowOf s)).rowIs w.heap.size 5 64 (R s b 0) :=
    ⟨rowOf s, Ar.setRow_at (heap_alloc_new w _), rowOf_size s hs, fun i hi => by rw [R_zero]; exact rowOf_at s i hs hi⟩
  have hb0 : Below w.heap.size w ((w.alloc (.cells zb64 5)).setRow w.heap.size (rowOf s)) := Ar.below_setRow ((Below.refl _ _).alloc (Nat.le_refl _) _) (Nat.le_refl _) _
  change _ = Result.ok _ ((w.alloc (.cells zb64 5)).setRow w.heap.size (rowOf s)) at hcp
  generalize (w.alloc (.cells zb64 5)).setRow w.heap.size (rowOf s) = w0 at *
  have HX : Hid (px s b = strOfNums (xs s b)) := Lib.hid rfl
  have HAT := Lib.hid (xs_at s b)
  have HXL : Hid ((xs s b).length = 64) := Lib.hid (by unfold xs; simp)
  go_enter Try.func20, Try.ntmps20
  go_wp2
  clear hmk hcp
  go_loopw [6] (fun i wr => ∃ n : Nat, n ≤ 64 ∧ i = .int .i64 (n : Int) ∧ wr.rowIs w.heap.size 5 64 (R s b n) ∧ Below w.heap.size w wr) (fun i _ => 64 - (intOf i).toNat)
  case atStart => exact ⟨0, Nat.zero_le _, rfl, hr0, hb0⟩
  case round =>
    clear hr0 hb0
    obtain ⟨n, hn, rfl, hr, hB⟩ := hrel
    by_cases hlt : n < 64
    · have hc := hr.cell hlt
      have hz := hr.frozen n
      rw [R_here] at hc
      have HC : Hid (Value.int .u8 (bits .xor .u8 (Wd.bt s n) b) = Value.int .u8 (bits .xor .u8 (Wd.bt s n) b)) := Lib.hid rfl
      have HSTEP := Lib.hid (R_step s b n)
      generalize Wd.bt s n = c at *
      go_wp2
      go_roundw
      case rel => exact ⟨n + 1, hlt, by go_num, (hr.set n _).congr (fun i hi => HSTEP.out i), hB.setCell (Nat.le_refl _) _⟩
      case measure => simp [intOf]; omega
    · have hn64 : n = 64 := by omega
      have hnI : ¬ (n : Int) < 64 := by omega
      have hcv : (convert 36 9 (.slice (some ⟨w.heap.size, 0, none⟩) 64 64)).run Try.prog wr = .ok (.string (strOfNums (xs s b))) wr :=
        run_convert_bytes_arg wr 36 5 Try.underlying36 Try.underlying5 w.heap.size 0 64 64 _ HXL.out (fun l hl => by
          rw [Nat.zero_add, hr.cell hl, HAT.out l hl]
          unfold R
          rw [if_pos (by omega)]) 9 Try.underlying9
      rw [← HX.out] at hcv
      clear hn64 hr
      go_wp2
      go_ret
      exact ⟨rfl, hB⟩
end Pw
end Go.Proofs.Ytlcildmhcohpbaa
