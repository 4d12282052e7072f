/-
  The digits of sixteen of a text: the program's hex and the reference's l06Hex.
-/
import Derived.Test.YtlcildmhcohpbaaGreatDoorProg
import Derived.Test.YtlcildmhcohpbaaGreatDoorBase
import Derived.Test.YtlcildmhcohpbaaGreatDoorWd
import Derived.WalkKit
import Derived.WalkSpells
import Derived.WalkLawsBesides
import Derived.BigQuiet
import Derived.OwnWalk
import Derived.IntWalk
import Derived.Deep.AppendLies
import Derived.Deep.RegionHeld3
import Derived.Laws.BytesArg
namespace Go.Proofs.YtlcildmhcohpbaaGreatDoor
open Go.RowKit
set_option linter.unusedSimpArgs false
set_option linter.unusedVariables false
namespace Hx
theorem run_index_str {P : Program} {t : TypeId} (ht : P.underlying t = some .string) (s : ByteArray) (i : Nat) (hi : i < s.size) (k : IntKind) (n : Int) (hn : n = (i : Int)) (w : World) :
    (Instr.index t (.string s) (.int k n)).run P w = .ok (.int .u8 (Wd.bt s i)) w := by
  subst hn
  have h1 : s[(i : Int).toNat]? = some (s[i]'hi) := by
    rw [Int.toNat_natCast]
    exact getElem?_pos s i hi
  have h2 : Wd.bt s i = ((s[i]'hi).toNat : Int) := by
    unfold Wd.bt
    rw [List.getD_eq_getElem?_getD, Array.getElem?_toList]
    have : s.data[i]? = some (s[i]'hi) := Array.getElem?_eq_getElem hi
    rw [this]
    rfl
  have h3 : (0 : Int) ≤ (i : Int) := by omega
  simp [Instr.index, asIntOf, run_underlying ht, h2, getElem?_pos s i hi]
def D : ByteArray := ⟨#[48, 49, 50, 51, 52, 53, 54, 55, 56, 57, 97, 98, 99, 100, 101, 102]⟩
def dig (k : Int) : Int := Wd.bt D k.toNat
theorem dig_run {P : Program} {t : TypeId} (ht : P.underlying t = some .string) (k : Int) (h0 : 0 ≤ k) (h1 : k < 16) (w : World) :
    (Instr.index t (.string ⟨#[48, 49, 50, 51, 52, 53, 54, 55, 56, 57, 97, 98, 99, 100, 101, 102]⟩) (.int .u8 k)).run P w = .ok (.int .u8 (dig k)) w :=
  run_index_str ht D k.toNat (by show k.toNat < 16; omega) .u8 k (by omega) w
def two (x : Int) : List Int := [dig (x / 16), dig (x % 16)]
def hexL (s : ByteArray) : Nat → List Int
  | 0 => []
  | n + 1 => hexL s n ++ two (Wd.bt s n)
theorem hexL_len (s : ByteArray) (n : Nat) : (hexL s n).length = 2 * n := by
  induction n with
  | zero => rfl
  | succ n ih => rw [hexL, List.length_append, ih]; show 2 * n + 2 = _; omega
def hex (s : ByteArray) : ByteArray := strOfNums (hexL s s.size)
theorem hex_size (s : ByteArray) : (hex s).size = 2 * s.size := by unfold hex; rw [strOfNums_size, hexL_len]
theorem info_u8 : (Tryz.prog.info? 5).map (fun i => (i.zero, i.size, i.bytes)) = some (some (.int .u8 0), 1, 1) := by kernel_rfl
theorem two_new (w : World) (x y : Value) (t : TypeId) : ∀ (j : Nat) (v : Value), [x, y][j]? = some v → (w.alloc (.cells #[x, y] t)).cell? ((⟨w.heap.size, 0, none⟩ : Addr).add j) = some v := by
  intro j v hv
  have e : (⟨w.heap.size, 0, none⟩ : Addr).add j = ⟨w.heap.size, j, none⟩ := by unfold Addr.add; split <;> simp_all
  rw [e, cell_of_row _ w.heap.size j _ _ _ (heap_alloc_new w _)]
  simpa using hv
theorem two_cell (x : Int) : ∀ u ∈ (two x).map (Value.int .u8), u.oneCell' = true := by
  intro u hu
  simp only [List.mem_map] at hu
  obtain ⟨i, _, rfl⟩ := hu
  rfl
set_option maxHeartbeats 4000000 in
set_option maxRecDepth 100000 in
theorem spec_ (s : ByteArray) (w : World) (hs : s.size ≤ 1000) : Calls Tryz.prog 14 #[.string s] w fun e w' => e = .returned (.string (hex s)) ∧ Below w.heap.size w w' := by
  obtain ⟨i0, hi, hz0, hz1, hz2⟩ := info_parts info_u8
  go_enter Tryz.func14, Tryz.ntmps14
  go_wp2
  go_loopw [3, 4] (fun v i wr => ∃ (m q g cap : Nat), m ≤ s.size ∧ q = 2 * m ∧ i = .int .i64 (m : Int) ∧ v = .slice (some ⟨g, 0, none⟩) q cap ∧
      wr.ownsRow w.heap.size 5 1 (.slice (some ⟨g, 0, none⟩) q cap) q ((hexL s m).map (Value.int .u8)) ∧ Below w.heap.size w wr)
    (fun _ i _ => s.size - (intOf i).toNat)
  case atStart => exact ⟨0, 0, w.heap.size, 0, Nat.zero_le _, rfl, rfl, rfl, World.ownsRow_made w #[] 0 (Nat.le_refl _) (by simp [maxLen]) rfl, (Below.refl _ _).alloc (Nat.le_refl _) _⟩
  case round =>
    obtain ⟨m, q, g, cap, hm, hq, rfl, rfl, hown, hB⟩ := hrel
    by_cases hlt : m < s.size
    · have x0 := run_index_str (P := Tryz.prog) Tryz.underlying9 s m hlt .i64 (m : Int) rfl
      have HQ := Lib.hid hq
      have HO : Hid (hexL s (m + 1) = hexL s m ++ two (Wd.bt s m)) := Lib.hid rfl
      have b0 := Wd.bt_lo s m
      have b1 := Wd.bt_hi s m
      have k3 : q + 2 ≤ maxLen := by simp only [maxLen]; omega
      have k4 : (q + 2) * 1 ≤ 140737488355328 := by omega
      clear hq
      generalize Wd.bt s m = x at *
      have x1 := dig_run (P := Tryz.prog) Tryz.underlying9 (x / 16) (by omega) (by omega)
      have x2 := dig_run (P := Tryz.prog) Tryz.underlying9 (x % 16) (by omega) (by omega)
      have y1 : x.tdiv 16 = x / 16 := Int.tdiv_eq_ediv_of_nonneg b0
      have y2 : x.tmod 16 = x % 16 := Int.tmod_eq_emod_of_nonneg b0
      have u1 : IntKind.u8.wrap (x / 16) = x / 16 := by rw [IntKind.wrap_u8']; omega
      have u2 : IntKind.u8.wrap (x % 16) = x % 16 := by rw [IntKind.wrap_u8']; omega
      have hg := ownsRow_ge hown
      have hbs := hB.size
      have hT : True := trivial
      go_wp2_with fail
      go_region_held3 (fun _ => True)
        (trivial)
        ((refine step_append_lies _ (by rfl) _ _ _ (by rfl) w.heap.size 5 i0 _ 1 1 Tryz.underlying25 hi hz0 hz1 hz2 rfl (by omega) (.slice (some ⟨g, 0, none⟩) q cap) q _ (by rfl) ((hown.alloc _).drew)
            ⟨wr.heap.size, 0, none⟩ 2 2 ((two x).map (Value.int .u8)) (by rfl) (by rfl) (two_new wr _ _ _) (two_cell x)
            (by omega) k3 k4 (by simp; omega) (wr.heap.size + 1) (by simp) ?_; intro gg cap2 w6 hown' hgrow hat hlt6))
      all_goals (
        have hB3 : Below w.heap.size w w6 := ((hB.alloc hbs _).drew).grown hgrow (by simp; omega) (fun i h => by simp [Value.ownBlock] at h; omega)
        go_wp2
        refine ⟨⟨m + 1, q + 2, gg, cap2, hlt, by have := HQ.out; omega, by go_num, rfl, by rw [HO.out, List.map_append]; exact hown', hB3⟩, ?_⟩
        simp [intOf]; omega)
    · have hms : m = s.size := by omega
      have hmI : ¬ (m : Int) < (s.size : Int) := by omega
      have hfin : (convert 25 9 (.slice (some ⟨g, 0, none⟩) q cap)).run Tryz.prog wr = .ok (.string (strOfNums (hexL s m))) wr :=
        run_convert_bytes_arg wr 25 5 Tryz.underlying25 Tryz.underlying5 g 0 q cap (hexL s m) (by rw [hexL_len, hq]) (fun i hi => by
          rw [Nat.zero_add, hown.cellAt i (by omega), List.getElem?_map, List.getD_eq_getElem?_getD, List.getElem?_eq_getElem (by rw [hexL_len]; omega)]
          rfl) 9 Tryz.underlying9
      have HD : Hid (strOfNums (hexL s m) = hex s) := Lib.hid (by unfold hex; rw [hms])
      clear hms hq
      generalize strOfNums (hexL s m) = res at *
      go_wp2
      go_ret
      exact ⟨ret_str HD.out, hB⟩
theorem and15 (x : Int) (h0 : 0 ≤ x) (h1 : x < 256) : bits .and .u8 x 15 = x % 16 := by
  obtain ⟨n, rfl⟩ := Int.eq_ofNat_of_zero_le h0
  have h : ∀ k : Fin 256, bits .and .u8 ((k.val : Nat) : Int) 15 = ((k.val : Nat) : Int) % 16 := by decide +kernel
  exact h ⟨n, by omega⟩
set_option maxHeartbeats 4000000 in
set_option maxRecDepth 100000 in
theorem impl_ (s : ByteArray) (w : World) (hs : s.size ≤ 1000) : Calls Tryz.prog 21 #[.string s] w fun e w' => e = .returned (.string (hex s)) ∧ Below w.heap.size w w' := by
  obtain ⟨i0, hi, hz0, hz1, hz2⟩ := info_parts info_u8
  go_enter Tryz.func21, Tryz.ntmps21
  go_wp2
  go_loopw [3, 4, 8] (fun v _ i wr => ∃ (m q g cap : Nat), m ≤ s.size ∧ q = 2 * m ∧ i = .int .i64 (m : Int) ∧ v = .slice (some ⟨g, 0, none⟩) q cap ∧
      wr.ownsRow w.heap.size 5 1 (.slice (some ⟨g, 0, none⟩) q cap) q ((hexL s m).map (Value.int .u8)) ∧ Below w.heap.size w wr)
    (fun _ _ i _ => s.size - (intOf i).toNat)
  case atStart => exact ⟨0, 0, w.heap.size, 0, Nat.zero_le _, rfl, rfl, rfl, World.ownsRow_made w #[] 0 (Nat.le_refl _) (by simp [maxLen]) rfl, (Below.refl _ _).alloc (Nat.le_refl _) _⟩
  case round =>
    obtain ⟨m, q, g, cap, hm, hq, rfl, rfl, hown, hB⟩ := hrel
    by_cases hlt : m < s.size
    · have x0 := run_index_str (P := Tryz.prog) Tryz.underlying9 s m hlt .i64 (m : Int) rfl
      have HQ := Lib.hid hq
      have HO : Hid (hexL s (m + 1) = hexL s m ++ two (Wd.bt s m)) := Lib.hid rfl
      have b0 := Wd.bt_lo s m
      have b1 := Wd.bt_hi s m
      have k3 : q + 2 ≤ maxLen := by simp only [maxLen]; omega
      have k4 : (q + 2) * 1 ≤ 140737488355328 := by omega
      clear hq
      generalize Wd.bt s m = x at *
      have x1 := dig_run (P := Tryz.prog) Tryz.underlying9 (x / 16) (by omega) (by omega)
      have x2 := dig_run (P := Tryz.prog) Tryz.underlying9 (x % 16) (by omega) (by omega)
      have y1 : bits .and .u8 x 15 = x % 16 := and15 x b0 b1
      have u1 : IntKind.u8.wrap (x / 16) = x / 16 := by rw [IntKind.wrap_u8']; omega
      have u2 : IntKind.u8.wrap (x % 16) = x % 16 := by rw [IntKind.wrap_u8']; omega
      have hg := ownsRow_ge hown
      have hbs := hB.size
      have hT : True := trivial
      go_wp2_with fail
      go_region_held3 (fun _ => True)
        (trivial)
        ((refine step_append_lies _ (by rfl) _ _ _ (by rfl) w.heap.size 5 i0 _ 1 1 Tryz.underlying25 hi hz0 hz1 hz2 rfl (by omega) (.slice (some ⟨g, 0, none⟩) q cap) q _ (by rfl) ((hown.alloc _).drew)
            ⟨wr.heap.size, 0, none⟩ 2 2 ((two x).map (Value.int .u8)) (by rfl) (by rfl) (two_new wr _ _ _) (two_cell x)
            (by omega) k3 k4 (by simp; omega) (wr.heap.size + 1) (by simp) ?_; intro gg cap2 w6 hown' hgrow hat hlt6))
      all_goals (
        have hB3 : Below w.heap.size w w6 := ((hB.alloc hbs _).drew).grown hgrow (by simp; omega) (fun i h => by simp [Value.ownBlock] at h; omega)
        go_wp2
        refine ⟨⟨m + 1, q + 2, gg, cap2, hlt, by have := HQ.out; omega, by go_num, rfl, by rw [HO.out, List.map_append]; exact hown', hB3⟩, ?_⟩
        simp [intOf]; omega)
    · have hms : m = s.size := by omega
      have hmI : ¬ (m : Int) < (s.size : Int) := by omega
      have hfin : (convert 25 9 (.slice (some ⟨g, 0, none⟩) q cap)).run Tryz.prog wr = .ok (.string (strOfNums (hexL s m))) wr :=
        run_convert_bytes_arg wr 25 5 Tryz.underlying25 Tryz.underlying5 g 0 q cap (hexL s m) (by rw [hexL_len, hq]) (fun i hi => by
          rw [Nat.zero_add, hown.cellAt i (by omega), List.getElem?_map, List.getD_eq_getElem?_getD, List.getElem?_eq_getElem (by rw [hexL_len]; omega)]
          rfl) 9 Tryz.underlying9
      have HD : Hid (strOfNums (hexL s m) = hex s) := Lib.hid (by unfold hex; rw [hms])
      clear hms hq
      generalize strOfNums (hexL s m) = res at *
      go_wp2
      go_ret
      exact ⟨ret_str HD.out, hB⟩
end Hx
end Go.Proofs.YtlcildmhcohpbaaGreatDoor
