/-
  A key of 64 bytes, each put together with a byte: the program's padded and the reference's l02Pad.
-/
import Derived.Test.YtlcildmhcohpbaaGreatDoorDx
import Derived.Lib.BufferWrite
namespace Go.Proofs.YtlcildmhcohpbaaGreatDoor
open Go.RowKit
set_option linter.unusedSimpArgs false
set_option linter.unusedVariables false
namespace Pw
def zb64 : Array Value := (List.replicate 64 (Value.int .u8 0)).toArray
theorem zb64_size : zb64.size = 64 := by unfold zb64; simp
theorem made64 : madeCells #[.int .u8 0] 64 = zb64 := by kernel_rfl
theorem info_u8 : (Tryz.prog.info? 5).map (fun i => (i.zero, i.size, i.bytes)) = some (some (.int .u8 0), 1, 1) := by kernel_rfl
theorem make_ (w : World) : (Instr.makeSlice 25 (.int .i64 64) (.int .i64 64)).run Tryz.prog w = .ok (.slice (some ⟨w.heap.size, 0, none⟩) 64 64) (w.alloc (.cells zb64 5)) := by
  have := run_make_row' (P := Tryz.prog) 25 5 (.int .u8 0) 1 Tryz.underlying25 info_u8 rfl .i64 .i64 64 (by decide) (by decide) w
  rw [made64] at this
  exact this
def rowOf (s : ByteArray) : Array Value := (zb64.toList.take 0 ++ Lib.byteCells s.data.toList ++ zb64.toList.drop (0 + s.size)).toArray
theorem rowOf_size (s : ByteArray) (hs : s.size ≤ 64) : (rowOf s).size = 64 := by
  have h2 : s.data.toList.length = s.size := rfl
  simp [rowOf, Lib.byteCells, zb64]
  omega
theorem rowOf_at (s : ByteArray) (i : Nat) (hs : s.size ≤ 64) (hi : i < 64) : (rowOf s)[i]? = some (.int .u8 (Wd.bt s i)) := by
  have h2 : s.data.toList.length = s.size := rfl
  unfold rowOf Wd.bt
  rw [List.take_zero, List.nil_append, List.getElem?_toArray, List.getElem?_append]
  by_cases h : i < s.size
  · rw [if_pos (by simp [Lib.byteCells]; omega)]
    simp only [Lib.byteCells, List.getElem?_map, List.getD_eq_getElem?_getD]
    rw [List.getElem?_eq_getElem (by omega)]
    rfl
  · rw [if_neg (by simp [Lib.byteCells]; omega)]
    have hl : (Lib.byteCells s.data.toList).length = s.size := by simp [Lib.byteCells, h2]
    rw [List.getElem?_drop, List.getD_eq_getElem?_getD, hl, List.getElem?_eq_none (l := s.data.toList) (by omega)]
    unfold zb64
    have e : 0 + s.size + (i - s.size) = i := by omega
    rw [e]
    rw [Array.getElem?_toList, Ar.rep_at 64 _ i hi]
    rfl
/-- a byte put together with a byte -/
def xs (s : ByteArray) (b : Int) : List Int := (List.range 64).map fun i => bits .xor .u8 (Wd.bt s i) b
def px (s : ByteArray) (b : Int) : ByteArray := strOfNums (xs s b)
theorem px_size (s : ByteArray) (b : Int) : (px s b).size = 64 := by unfold px xs; rw [strOfNums_size]; simp
theorem xs_at (s : ByteArray) (b : Int) (i : Nat) (hi : i < 64) : (xs s b).getD i 0 = bits .xor .u8 (Wd.bt s i) b := by
  unfold xs
  rw [List.getD_eq_getElem?_getD, List.getElem?_map, List.getElem?_range hi]
  rfl
def R (s : ByteArray) (b : Int) (n i : Nat) : Value := if i < n then .int .u8 (bits .xor .u8 (Wd.bt s i) b) else .int .u8 (Wd.bt s i)
theorem R_zero (s : ByteArray) (b : Int) (i : Nat) : R s b 0 i = .int .u8 (Wd.bt s i) := by unfold R; rw [if_neg (by omega)]
theorem R_here (s : ByteArray) (b : Int) (n : Nat) : R s b n n = .int .u8 (Wd.bt s n) := by unfold R; rw [if_neg (by omega)]
theorem R_step (s : ByteArray) (b : Int) (n i : Nat) : (if i = n then Value.int .u8 (bits .xor .u8 (Wd.bt s n) b) else R s b n i) = R s b (n + 1) i := by
  unfold R
  by_cases h : i = n
  · subst h
    rw [if_pos rfl, if_pos (by omega)]
  · rw [if_neg h]
    by_cases h2 : i < n
    · rw [if_pos h2, if_pos (by omega)]
    · rw [if_neg h2, if_neg (by omega)]
set_option maxHeartbeats 2000000 in
set_option maxRecDepth 100000 in
theorem pad_ (s : ByteArray) (b : Int) (w : World) (hs : s.size ≤ 64) : Calls Tryz.prog 32 #[.string s, .int .u8 b] w fun e w' => e = .returned (.string (px s b)) ∧ Below w.heap.size w w' := by
  have hmk := make_
  have hcp := Lib.run_copy_row_string (P := Tryz.prog) (w.alloc (.cells zb64 5)) 25 9 3 5 w.heap.size 0 64 64 s zb64 5 Tryz.underlying25 (by kernel_rfl) (heap_alloc_new w _) hs (by rw [zb64_size]; omega)
  have hr0 : ((w.alloc (.cells zb64 5)).setRow w.heap.size (rowOf s)).rowIs w.heap.size 5 64 (R s b 0) :=
    ⟨rowOf s, Ar.setRow_at (heap_alloc_new w _), rowOf_size s hs, fun i hi => by rw [R_zero]; exact rowOf_at s i hs hi⟩
  have hb0 : Below w.heap.size w ((w.alloc (.cells zb64 5)).setRow w.heap.size (rowOf s)) := Ar.below_setRow ((Below.refl _ _).alloc (Nat.le_refl _) _) (Nat.le_refl _) _
  change _ = Result.ok _ ((w.alloc (.cells zb64 5)).setRow w.heap.size (rowOf s)) at hcp
  generalize (w.alloc (.cells zb64 5)).setRow w.heap.size (rowOf s) = w0 at *
  have HX : Hid (px s b = strOfNums (xs s b)) := Lib.hid rfl
  have HAT := Lib.hid (xs_at s b)
  have HXL : Hid ((xs s b).length = 64) := Lib.hid (by unfold xs; simp)
  go_enter Tryz.func32, Tryz.ntmps32
  go_wp2
  clear hmk hcp
  go_loopw [6] (fun i wr => ∃ n : Nat, n ≤ 64 ∧ i = .int .i64 (n : Int) ∧ wr.rowIs w.heap.size 5 64 (R s b n) ∧ Below w.heap.size w wr) (fun i _ => 64 - (intOf i).toNat)
  case atStart => exact ⟨0, Nat.zero_le _, rfl, hr0, hb0⟩
  case round =>
    clear hr0 hb0
    obtain ⟨n, hn, rfl, hr, hB⟩ := hrel
    by_cases hlt : n < 64
    · have hc := hr.cell hlt
      have hz := hr.frozen n
      rw [R_here] at hc
      have HC : Hid (Value.int .u8 (bits .xor .u8 (Wd.bt s n) b) = Value.int .u8 (bits .xor .u8 (Wd.bt s n) b)) := Lib.hid rfl
      have HSTEP := Lib.hid (R_step s b n)
      generalize Wd.bt s n = c at *
      go_wp2
      go_roundw
      case rel => exact ⟨n + 1, hlt, by go_num, (hr.set n _).congr (fun i hi => HSTEP.out i), hB.setCell (Nat.le_refl _) _⟩
      case measure => simp [intOf]; omega
    · have hn64 : n = 64 := by omega
      have hnI : ¬ (n : Int) < 64 := by omega
      have hcv : (convert 25 9 (.slice (some ⟨w.heap.size, 0, none⟩) 64 64)).run Tryz.prog wr = .ok (.string (strOfNums (xs s b))) wr :=
        run_convert_bytes_arg wr 25 5 Tryz.underlying25 Tryz.underlying5 w.heap.size 0 64 64 _ HXL.out (fun l hl => by
          rw [Nat.zero_add, hr.cell hl, HAT.out l hl]
          unfold R
          rw [if_pos (by omega)]) 9 Tryz.underlying9
      rw [← HX.out] at hcv
      clear hn64 hr
      go_wp2
      go_ret
      exact ⟨rfl, hB⟩
set_option maxHeartbeats 2000000 in
set_option maxRecDepth 100000 in
theorem padded_ (s : ByteArray) (b : Int) (w : World) (hs : s.size ≤ 64) : Calls Tryz.prog 37 #[.string s, .int .u8 b] w fun e w' => e = .returned (.string (px s b)) ∧ Below w.heap.size w w' := by
  have hmk := make_
  have hcp := Lib.run_copy_row_string (P := Tryz.prog) (w.alloc (.cells zb64 5)) 25 9 3 5 w.heap.size 0 64 64 s zb64 5 Tryz.underlying25 (by kernel_rfl) (heap_alloc_new w _) hs (by rw [zb64_size]; omega)
  have hr0 : ((w.alloc (.cells zb64 5)).setRow w.heap.size (rowOf s)).rowIs w.heap.size 5 64 (R s b 0) :=
    ⟨rowOf s, Ar.setRow_at (heap_alloc_new w _), rowOf_size s hs, fun i hi => by rw [R_zero]; exact rowOf_at s i hs hi⟩
  have hb0 : Below w.heap.size w ((w.alloc (.cells zb64 5)).setRow w.heap.size (rowOf s)) := Ar.below_setRow ((Below.refl _ _).alloc (Nat.le_refl _) _) (Nat.le_refl _) _
  change _ = Result.ok _ ((w.alloc (.cells zb64 5)).setRow w.heap.size (rowOf s)) at hcp
  generalize (w.alloc (.cells zb64 5)).setRow w.heap.size (rowOf s) = w0 at *
  have HX : Hid (px s b = strOfNums (xs s b)) := Lib.hid rfl
  have HAT := Lib.hid (xs_at s b)
  have HXL : Hid ((xs s b).length = 64) := Lib.hid (by unfold xs; simp)
  go_enter Tryz.func37, Tryz.ntmps37
  go_wp2
  clear hmk hcp
  go_loopw [6, 13] (fun _ i wr => ∃ n : Nat, n ≤ 64 ∧ i = .int .i64 (n : Int) ∧ wr.rowIs w.heap.size 5 64 (R s b n) ∧ Below w.heap.size w wr) (fun _ i _ => 64 - (intOf i).toNat)
  case atStart => exact ⟨0, Nat.zero_le _, rfl, hr0, hb0⟩
  case round =>
    clear hr0 hb0
    obtain ⟨n, hn, rfl, hr, hB⟩ := hrel
    by_cases hlt : n < 64
    · have hc := hr.cell hlt
      have hz := hr.frozen n
      rw [R_here] at hc
      have HC : Hid (Value.int .u8 (bits .xor .u8 (Wd.bt s n) b) = Value.int .u8 (bits .xor .u8 (Wd.bt s n) b)) := Lib.hid rfl
      have HSTEP := Lib.hid (R_step s b n)
      generalize Wd.bt s n = c at *
      go_wp2
      go_roundw
      case rel => exact ⟨n + 1, hlt, by go_num, (hr.set n _).congr (fun i hi => HSTEP.out i), hB.setCell (Nat.le_refl _) _⟩
      case measure => simp [intOf]; omega
    · have hn64 : n = 64 := by omega
      have hnI : ¬ (n : Int) < 64 := by omega
      have hcv : (convert 25 9 (.slice (some ⟨w.heap.size, 0, none⟩) 64 64)).run Tryz.prog wr = .ok (.string (strOfNums (xs s b))) wr :=
        run_convert_bytes_arg wr 25 5 Tryz.underlying25 Tryz.underlying5 w.heap.size 0 64 64 _ HXL.out (fun l hl => by
          rw [Nat.zero_add, hr.cell hl, HAT.out l hl]
          unfold R
          rw [if_pos (by omega)]) 9 Tryz.underlying9
      rw [← HX.out] at hcv
      clear hn64 hr
      go_wp2
      go_ret
      exact ⟨rfl, hB⟩
end Pw
end Go.Proofs.YtlcildmhcohpbaaGreatDoor
