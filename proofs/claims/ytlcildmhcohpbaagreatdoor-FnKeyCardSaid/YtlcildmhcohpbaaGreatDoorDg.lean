/-
  The walk of the program's digest.
-/
import Derived.Test.YtlcildmhcohpbaaGreatDoorProg
import Derived.Test.YtlcildmhcohpbaaGreatDoorBase
import Derived.Test.YtlcildmhcohpbaaGreatDoorNh
import Derived.Test.YtlcildmhcohpbaaGreatDoorTk
import Derived.Test.YtlcildmhcohpbaaGreatDoorPd
import Derived.Test.YtlcildmhcohpbaaGreatDoorSf
import Derived.WalkKit
import Derived.WalkSpells
import Derived.WalkLawsBesides
import Derived.Laws.BytesString
import Derived.Deep.LoopGhost
namespace Go.Proofs.YtlcildmhcohpbaaGreatDoor
open Go.RowKit
set_option linter.unusedSimpArgs false
set_option linter.unusedVariables false
namespace Dg
open Pd
theorem not_empty (b : ByteArray) (h : 0 < b.size) : b.toList.isEmpty = false := by
  rw [List.isEmpty_eq_false_iff]
  intro e
  rw [ByteArray.toList_eq] at e
  have h2 := congrArg List.length e
  have h3 : b.data.toList.length = b.size := rfl
  simp at h2
  rw [h2] at h
  simp at h
theorem is_empty (b : ByteArray) (h : b.size = 0) : b.toList.isEmpty = true := by
  rw [List.isEmpty_iff, ByteArray.toList_eq]
  exact List.eq_nil_of_length_eq_zero h
theorem four_new (w : World) (x y z u : Value) (t : TypeId) : ∀ (j : Nat) (v : Value), [x, y, z, u][j]? = some v → (w.alloc (.cells #[x, y, z, u] t)).cell? ((⟨w.heap.size, 0, none⟩ : Addr).add j) = some v := by
  intro j v hv
  have e : (⟨w.heap.size, 0, none⟩ : Addr).add j = ⟨w.heap.size, j, none⟩ := by unfold Addr.add; split <;> simp_all
  rw [e, cell_of_row _ w.heap.size j _ _ _ (heap_alloc_new w _)]
  simpa using hv
theorem four_cell (n : Int) : ∀ u ∈ (four n).map (Value.int .u8), u.oneCell' = true := by
  intro u hu
  simp only [List.mem_map] at hu
  obtain ⟨i, _, rfl⟩ := hu
  rfl
theorem info_byte : (Tryz.prog.info? 5).map (fun i => (i.zero, i.size, i.bytes)) = some (some (.int .u8 0), 1, 1) := by kernel_rfl
theorem rep_ (c : Int) (w : World) (h0 : 0 ≤ c) (hc : c ≤ 64) : Calls Tryz.prog 46 #[.string ⟨#[0]⟩, .int .i64 c] w fun e w' => e = .returned (.string (zs c.toNat)) ∧ Below w.heap.size w w' := by
  obtain ⟨n, rfl⟩ := Int.eq_ofNat_of_zero_le h0
  refine (Tryz.strings_Repeat ⟨#[0]⟩ n w (by omega) (by rw [show (⟨#[0]⟩ : ByteArray).size = 1 from rfl]; omega)).mono ?_
  rintro e w' ⟨rfl, hb⟩
  refine ⟨ret_str ?_, hb⟩
  unfold zs
  rw [Int.toNat_natCast]
  have := Lib.repeatL_replicate 0 1 n
  rw [Nat.mul_one] at this
  exact congrArg (fun l => (⟨List.toArray l⟩ : ByteArray)) this

set_option maxHeartbeats 2000000 in
set_option maxRecDepth 100000 in
theorem digest_ (s : ByteArray) (w : World) (hs : s.size ≤ 1000000) :
    Calls Tryz.prog 36 #[.string s] w fun e w' =>
      e = .returned (.string (digest s)) ∧ Below w.heap.size w w' := by
  have hcv := fun (n : Int) (w : World) => conv_one (P := Tryz.prog) Tryz.underlying25 Tryz.underlying5 Tryz.underlying9 n w
  obtain ⟨i0, hi, hz0, hz1, hz2⟩ := info_parts info_byte
  go_enter Tryz.func36, Tryz.ntmps36
  go_wp2_with (go_at_call 45; refine (Nh.newHash_ _).mono ?_; rintro e w1 ⟨rfl, hH, hb1⟩)
  refine (rep_ _ _ (by omega) (by omega)).mono ?_
  rintro e w2 ⟨rfl, hb2⟩
  have hzz0 : (zs ((120 - ((s.size : Int) + 1)) % 64).toNat).size ≤ 64 := by rw [zs_size]; omega
  generalize hzz : zs ((120 - ((s.size : Int) + 1)) % 64).toNat = z at *
  have HZ := Lib.hid hzz
  clear hzz
  go_wp2
  have hH2 : w2.rowIs w.heap.size 72 72 (Nh.F 64) := hH.of_block (hb2.block _ hH.lt)
  have hB2 : Below w.heap.size w w2 := hb1.trans (hb2.mono hb1.size)
  clear hH hb1 hb2
  go_loopw [0, 5] (fun t i wr => ∃ m : Nat, m ≤ 8 ∧ i = .int .i64 ((m : Int) - 1) ∧ t = .string (T (s ++ ⟨#[128]⟩ ++ z) s.size (8 - m)) ∧ wr.rowIs w.heap.size 72 72 (Nh.F 64) ∧ Below w.heap.size w wr)
    (fun _ i _ => (intOf i + 1).toNat)
  case atStart => exact ⟨8, by omega, rfl, rfl, hH2, hB2⟩
  case round =>
    clear hH2 hB2
    obtain ⟨m, hm, rfl, rfl, hH, hB⟩ := hrel
    have hT := T_size (s ++ ⟨#[128]⟩ ++ z) s.size (8 - m)
    have hT2 : (T (s ++ ⟨#[128]⟩ ++ z) s.size (8 - m)).size ≤ 1000100 := by
      rw [hT, ByteArray.size_append, ByteArray.size_append]
      have : (⟨#[128]⟩ : ByteArray).size = 1 := rfl
      omega
    clear hT
    cases m with
    | succ m =>
      have e1 : (((m + 1 : Nat) : Int) - 1) = m := by omega
      have HT := Lib.hid (T_succ (s ++ ⟨#[128]⟩ ++ z) s.size (8 - (m + 1)))
      have HE : Hid (8 - (m + 1) + 1 = 8 - m) := Lib.hid (by omega)
      generalize T (s ++ ⟨#[128]⟩ ++ z) s.size (8 - (m + 1)) = tx at *
      rw [e1]
      clear e1
      have hsz : ∀ x : Int, (strOfNums [x]).size = 1 := fun x => strOfNums_size [x]
      go_wp2
      go_roundw
      case rel => exact ⟨m, by omega, rfl, by rw [← HE.out, HT.out, show 7 - (8 - (m + 1)) = m from by omega], hH.alloc _, hB.alloc hB.size _⟩
      case measure => simp [intOf]
    | zero =>
      have hm1 : (((0 : Nat) : Int) - 1) = -1 := rfl
      rw [hm1]
      clear hm1
      have hp : T (s ++ ⟨#[128]⟩ ++ z) s.size (8 - 0) = pad s := by unfold pad; rw [HZ.out]
      rw [hp] at hT2 ⊢
      have HP := Lib.hid (nb_mul s)
      have hx0 : (pad s).extract (64 * 0) (pad s).size = pad s := by rw [Nat.mul_zero]; exact ByteArray.extract_zero_size
      generalize hpd : pad s = p at *
      have HPD := Lib.hid hpd
      clear hpd
      clear hp HZ hzz0
      have hH3 : wr.rowIs w.heap.size 72 72 (Tk.H Pd.start K) := hH.congr (fun j hj => by
        unfold Nh.F Tk.H
        by_cases h : j < 8
        · rw [if_pos h, if_pos h, if_pos (by omega), start_at j h]
        · rw [if_neg h, if_neg h, if_pos (by omega)]
          rfl)
      clear hH
      go_wp2
      go_loopg [0] (nb s) (fun g t wr => ∃ j : Nat, j ≤ nb s ∧ g = nb s - j ∧ t = .string (p.extract (64 * j) p.size) ∧ wr.rowIs w.heap.size 72 72 (Tk.H (stAt K p Pd.start j) K) ∧ Below w.heap.size w wr)
      case atStart => exact ⟨0, Nat.zero_le _, rfl, by rw [hx0], hH3, hB⟩
      case round =>
        clear hH3 hB
        obtain ⟨j, hj, rfl, rfl, hH, hB⟩ := hrel
        by_cases hlt : j < nb s
        · have hsz : 64 * j + 64 ≤ p.size := by rw [HP.out]; omega
          have hE1 := Lib.hid (ext_ext p (64 * j) hsz)
          have hE2 := Lib.hid (ext_tail p (64 * j) hsz)
          have hs64 : 64 ≤ (p.extract (64 * j) p.size).size := by rw [ByteArray.size_extract]; omega
          have hsB : (p.extract (64 * j) p.size).size ≤ 1000100 := by rw [ByteArray.size_extract]; omega
          generalize p.extract (64 * j) p.size = tx at *
          have hne : tx.toList.isEmpty = false := not_empty tx (by omega)
          have hs2 : (tx.extract 0 64).size = 64 := by rw [ByteArray.size_extract]; omega
          have HS2 := Lib.hid hs2
          clear hs2
          go_wp2_with (go_at_call 47; refine (Tk.take_ _ _ _ _ _ HS2.out hH).mono ?_; rintro e w3 ⟨rfl, hH4, hG⟩)
          go_roundg (nb s - (j + 1))
          case measure => omega
          case rel => exact ⟨j + 1, by omega, rfl, by rw [hE2.out, show 64 * j + 64 = 64 * (j + 1) from by omega], by rw [hE1.out] at hH4; exact hH4, hB.grown hG hB.size (fun k hk => by injection hk; omega)⟩
        · obtain rfl : j = nb s := by omega
          have htx : (p.extract (64 * nb s) p.size).size = 0 := by rw [ByteArray.size_extract, HP.out]; omega
          have hne := is_empty _ htx
          clear htx
          generalize p.extract (64 * nb s) p.size = tx at *
          generalize hst : stAt K p Pd.start (nb s) = st at hH
          have HST := Lib.hid hst
          clear hst
          obtain ⟨a, b, c, d, e, f, g, h⟩ := st
          have c0 := hH.cell (i := 0) (by omega)
          have c1 := hH.cell (i := 1) (by omega)
          have c2 := hH.cell (i := 2) (by omega)
          have c3 := hH.cell (i := 3) (by omega)
          have c4 := hH.cell (i := 4) (by omega)
          have c5 := hH.cell (i := 5) (by omega)
          have c6 := hH.cell (i := 6) (by omega)
          have c7 := hH.cell (i := 7) (by omega)
          simp only [Tk.H, Wd.St.at, show (0 : Nat) < 8 from by decide, show (1 : Nat) < 8 from by decide, show (2 : Nat) < 8 from by decide, show (3 : Nat) < 8 from by decide, show (4 : Nat) < 8 from by decide, show (5 : Nat) < 8 from by decide, show (6 : Nat) < 8 from by decide, show (7 : Nat) < 8 from by decide, if_true] at c0 c1 c2 c3 c4 c5 c6 c7
          have hlH := hH.lt
          clear hH
          go_wp2_with fail
          clear c0 c1 c2 c3 c4 c5 c6 c7
          go_loopw [6, 50] (fun v i wr => ∃ (n g' cap : Nat), n ≤ 8 ∧ i = .int .i64 (n : Int) ∧ v = .slice (some ⟨g', 0, none⟩) (4 * n) cap ∧
              wr.ownsRow w.heap.size 5 1 (.slice (some ⟨g', 0, none⟩) (4 * n) cap) (4 * n) ((out ⟨a, b, c, d, e, f, g, h⟩ n).map (Value.int .u8)) ∧ Below w.heap.size w wr)
            (fun _ i _ => 8 - (intOf i).toNat)
          case atStart => exact ⟨0, wr.heap.size, 0, by omega, rfl, rfl, World.ownsRow_made wr #[] 0 hB.size (by simp [maxLen]) rfl, hB.alloc hB.size _⟩
          case round =>
            clear hB
            obtain ⟨n, g', cap, hn, rfl, rfl, hown, hB⟩ := hrel
            by_cases hl8 : n < 8
            · have hix := Ar.run_index_arr (P := Tryz.prog) (cs := #[.int .u32 a, .int .u32 b, .int .u32 c, .int .u32 d, .int .u32 e, .int .u32 f, .int .u32 g, .int .u32 h]) Tryz.underlying69 Tryz.underlying58 rfl (by kernel_rfl) hl8 (Tk.vs_at ⟨a, b, c, d, e, f, g, h⟩ n hl8) .i64
              have HO : Hid (out ⟨a, b, c, d, e, f, g, h⟩ (n + 1) = out ⟨a, b, c, d, e, f, g, h⟩ n ++ four (Wd.St.at ⟨a, b, c, d, e, f, g, h⟩ n)) := Lib.hid rfl
              generalize Wd.St.at ⟨a, b, c, d, e, f, g, h⟩ n = x at hix HO
              have k3 : 4 * n + 4 ≤ maxLen := by simp only [maxLen]; omega
              have k4 : (4 * n + 4) * 1 ≤ 140737488355328 := by omega
              have k5 : w.heap.size ≤ (wr.alloc (.cells #[.int .u8 (x / 16777216 % 256), .int .u8 (x / 65536 % 256), .int .u8 (x / 256 % 256), .int .u8 (x % 256)] 5)).heap.size := by have := hB.size; simp; omega
              go_wp2_with (at_builtin; refine wpList_append_own _ rfl (.tmp 53) (.tmp 65) 25 rfl w.heap.size 5 i0 (.int .u8 0) 1 1 Tryz.underlying25 hi hz0 hz1 hz2 rfl (by decide) _ _ _ rfl (hown.alloc _) ⟨wr.heap.size, 0, none⟩ 4 4 ((four x).map (Value.int .u8)) rfl rfl (four_new _ _ _ _ _ _) (four_cell x) k3 k4 k5 ?_)
              intro v' w1 hown' hgrow _
              obtain ⟨g2, cap', rfl, hg', _⟩ := hown'.form (by omega)
              have hb' : Below w.heap.size w w1 := (hB.alloc hB.size _).grown hgrow k5 (fun i hi => by
                have hle := ownsRow_ge hown
                simp [Value.ownBlock] at hi
                omega)
              go_wp2
              go_roundw
              case rel => exact ⟨n + 1, g2, cap', by omega, by go_num, by rfl, by rw [HO.out, List.map_append]; exact hown', hb'⟩
              case measure => simp [intOf]; omega
            · have hn8 : n = 8 := by omega
              have hfin : (convert 25 9 (.slice (some ⟨g', 0, none⟩) (4 * n) cap)).run Tryz.prog wr = .ok (.string (strOfNums (out ⟨a, b, c, d, e, f, g, h⟩ n))) wr :=
                run_convert_bytes_arg wr 25 5 Tryz.underlying25 Tryz.underlying5 g' 0 (4 * n) cap (out ⟨a, b, c, d, e, f, g, h⟩ n) (out_len _ _) (fun i hi => by
                  rw [Nat.zero_add, hown.cellAt i (by omega), List.getElem?_map, List.getD_eq_getElem?_getD, List.getElem?_eq_getElem (by rw [out_len]; exact hi)]
                  rfl) 9 Tryz.underlying9
              have HD : Hid (strOfNums (out ⟨a, b, c, d, e, f, g, h⟩ n) = digest s) := Lib.hid (by unfold digest; rw [hn8, ← HST.out, ← HPD.out])
              clear hn8
              generalize strOfNums (out ⟨a, b, c, d, e, f, g, h⟩ n) = res at *
              go_wp2
              go_ret
              exact ⟨ret_str HD.out, hB⟩
end Dg
end Go.Proofs.YtlcildmhcohpbaaGreatDoor
