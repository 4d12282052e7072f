/-
  The walk of the reference's l02All: the digest of a text.
-/
import Derived.Test.YtlcildmhcohpbaaGreatDoorBl
import Derived.Test.YtlcildmhcohpbaaGreatDoorLl
import Derived.Test.YtlcildmhcohpbaaGreatDoorDg
import Derived.Deep.LoopGhost
namespace Go.Proofs.YtlcildmhcohpbaaGreatDoor
open Go.RowKit
set_option linter.unusedSimpArgs false
set_option linter.unusedVariables false
namespace Al
open Rw Ll
theorem info_u8 : (Tryz.prog.info? 5).map (fun i => (i.zero, i.size, i.bytes)) = some (some (.int .u8 0), 1, 1) := by kernel_rfl
theorem below_bytes {B : Nat} (w : World) (e : TypeId) (s : ByteArray) (hB : B ≤ w.heap.size) : Below B w (Lib.bytesWorld w e s) :=
  ⟨rfl, rfl, rfl, by rw [Lib.bytesWorld_size]; omega, fun k hk => Lib.bytesWorld_at_old w e s k (by omega)⟩
set_option maxHeartbeats 4000000 in
set_option maxRecDepth 100000 in
theorem all_ (s : ByteArray) (w : World) (hs : s.size ≤ 1000000) : Calls Tryz.prog 16 #[.string s] w fun e w' => e = .returned (.string (Pd.digest s)) ∧ Below w.heap.size w w' := by
  obtain ⟨i0, hi, hz0, hz1, hz2⟩ := info_parts info_u8
  have hcv := Lib.run_convert_string_bytes (P := Tryz.prog) w 9 25 5 s Tryz.underlying9 Tryz.underlying25 Tryz.underlying5
  have hR0 := Row.bytes w 5 s
  have hb0 := below_bytes w 5 s (Nat.le_refl _)
  generalize Lib.bytesWorld w 5 s = w0 at *
  generalize grownCap w s.size 0 5 = c0 at *
  have hN := Lib.hid (nums_len s)
  change Row w0 w.heap.size w.heap.size c0 s.size (nums s) at hR0
  go_enter Tryz.func16, Tryz.ntmps16
  go_wp2_with (at_builtin; refine wpList_append_rw _ rfl (.tmp 12) (.tmp 13) 25 rfl 5 i0 Tryz.underlying25 hi hz0 hz1 hz2 _ _ _ _ _ 128 rfl rfl hR0 (by omega) ?_)
  intro g1 c1 w1 hR1 hb1
  have hB1 := hb0.trans hb1
  clear hcv hR0 hb0 hb1
  go_wp2
  have hZ : z s < 64 := by unfold z; omega
  have HZ := Lib.hid (show (z s : Int) = (120 - ((s.size : Int) + 1)) % 64 by unfold z; omega)
  go_loopg [3] (z s) (fun gh v wr => ∃ (c k g' cap : Nat), c ≤ z s ∧ gh = z s - c ∧ k = s.size + 1 + c ∧ v = .slice (some ⟨g', 0, none⟩) k cap ∧ Row wr w.heap.size g' cap k (L s c) ∧ Below w.heap.size w wr)
  case atStart => exact ⟨0, _, g1, c1, Nat.zero_le _, rfl, rfl, rfl, by rw [L_zero]; exact hR1, hB1⟩
  case round =>
    clear hR1 hB1
    obtain ⟨c, k, g', cap, hc, rfl, hk, rfl, hR, hB⟩ := hrel
    have HK := Lib.hid hk
    have hk1 : k + 1 ≤ 1000200 := by omega
    by_cases hlt : c < z s
    · have hne : ((k : Int) % 64 != 56) = true := by
        have := HZ.out
        simp
        omega
      clear hk
      go_wp2_with (at_builtin; refine wpList_append_rw _ rfl (.tmp 19) (.tmp 20) 25 rfl 5 i0 Tryz.underlying25 hi hz0 hz1 hz2 _ _ _ _ _ 0 rfl rfl hR hk1 ?_)
      intro g2 c2 w2 hR2 hb2
      have hB2 := hB.trans hb2
      rw [← L_succ] at hR2
      go_wp2
      go_roundg (z s - (c + 1))
      case measure => omega
      case rel => exact ⟨c + 1, k + 1, g2, c2, hlt, rfl, by have := HK.out; omega, rfl, hR2, hB2⟩
    · have hne : ((k : Int) % 64 != 56) = false := by
        have := HZ.out
        simp
        omega
      have hcz : c = z s := by omega
      subst hcz
      clear hk hlt hc
      go_wp2
      have HM : Hid (∀ m : Nat, m < 8 → M s (8 - m) = M s (8 - (m + 1)) ++ [8 * (s.size : Int) / 2 ^ (8 * m) % 256]) := Lib.hid (fun m hm => by
        rw [show 8 - m = (8 - (m + 1)) + 1 by omega, M_succ, show 7 - (8 - (m + 1)) = m by omega, Int.mul_comm])
      go_loopw [3, 5] (fun v q wr => ∃ (m n g' cap : Nat) (q0 : Int), m ≤ 8 ∧ q = .int .i64 q0 ∧ q0 = 8 * (m : Int) - 8 ∧ n = s.size + 1 + z s + (8 - m) ∧ v = .slice (some ⟨g', 0, none⟩) n cap ∧ Row wr w.heap.size g' cap n (M s (8 - m)) ∧ Below w.heap.size w wr)
        (fun _ q _ => (intOf q + 8).toNat)
      case atStart => exact ⟨8, k, g', cap, 56, Nat.le_refl _, rfl, rfl, by rw [HK.out]; omega, rfl, hR, hB⟩
      case round =>
        clear hR hB HK hk1 hne
        obtain ⟨m, n, g', cap, q0, hm, rfl, hq, hn, rfl, hR, hB⟩ := hrel
        have hn1 : n + 1 ≤ 1000200 := by omega
        cases m with
        | succ m =>
          have hq2 : q0 = ((8 * m : Nat) : Int) := by omega
          have HN2 := Lib.hid hn
          have HM2 := Lib.hid (HM.out m (by omega))
          have hm8 : 8 * m < 64 := by omega
          have HE : Hid (8 * (m : Int) = ((8 * m : Nat) : Int)) := Lib.hid (by omega)
          have hlo : 8 * (s.size : Int) < 8000001 := by omega
          have hlo0 : 0 ≤ 8 * (s.size : Int) := by omega
          clear hn
          subst hq2
          clear hq
          generalize 8 * m = r at *
          generalize 8 * (s.size : Int) = bb at *
          generalize M s (8 - (m + 1)) = xs0 at *
          go_wp2_with (at_builtin; refine wpList_append_rw _ rfl (.tmp 30) (.tmp 36) 25 rfl 5 i0 Tryz.underlying25 hi hz0 hz1 hz2 _ _ _ _ _ _ rfl rfl hR hn1 ?_)
          intro g2 c2 w2 hR2 hb2
          have hB2 := hB.trans hb2
          rw [← HM2.out] at hR2
          go_wp2
          go_roundw
          case rel => exact ⟨m, n + 1, g2, c2, (r : Int) - 8, by omega, rfl, by rw [← HE.out], by rw [HN2.out]; omega, rfl, hR2, hB2⟩
          case measure => simp [intOf]; omega
        | zero =>
          have hq2 : q0 = -8 := by omega
          subst hq2
          have HN3 : Hid (n = 64 * Pd.nb s) := Lib.hid (by rw [← M_len8, M_len]; omega)
          have hR8 : Row wr w.heap.size g' cap n (M s 8) := hR
          have hnc := hR.le
          have hlen := hR.len
          have hMl : (M s 8).length = n := hlen
          clear hR hn hq hm hlen
          have HP := Lib.hid (M_pad s)
          generalize M s 8 = xs at *
          clear HM
          go_wp2_with (go_at_call 33; refine (Bk.start_ _).mono ?_; rintro e w2 ⟨rfl, hcS, hb2⟩)
          have hB2 := hB.trans (hb2.mono hB.size)
          have hR2 := hR8.below hb2 hR8.lt
          have hS2 : wr.heap.size < w2.heap.size := World.block_lt_of_cell? _ _ (hcS 0 (by omega))
          generalize hS : wr.heap.size = S at *
          have hSB : w.heap.size ≤ S := by rw [← hS]; exact hB.size
          clear hR8 hS hb2 hB
          go_wp2
          go_loopg [6, 7] (Pd.nb s) (fun gh st i wr => ∃ (j S capS q : Nat), j ≤ Pd.nb s ∧ gh = Pd.nb s - j ∧ q = 64 * j ∧ i = .int .i64 (q : Int) ∧ st = .slice (some ⟨S, 0, none⟩) 8 capS ∧
              (∀ l, l < 8 → wr.cell? ⟨S, l, none⟩ = some (.int .i64 ((Pd.stAt Pd.K (Pd.pad s) Pd.start j).at l))) ∧ w.heap.size ≤ S ∧ S < wr.heap.size ∧ Row wr w.heap.size g' cap n xs ∧ Below w.heap.size w wr)
          case atStart => exact ⟨0, S, 8, 0, Nat.zero_le _, rfl, rfl, rfl, rfl, hcS, hSB, hS2, hR2, hB2⟩
          case round =>
            clear hcS hSB hS2 hR2 hB2
            obtain ⟨j, S, capS, q, hj, rfl, hq, rfl, rfl, hcS, hSB, hS2, hR, hB⟩ := hrel
            have HQ := Lib.hid hq
            have HJ := Lib.hid hj
            by_cases hlt : j < Pd.nb s
            · have hqn : q + 64 ≤ n := by rw [HN3.out, hq]; omega
              have hql : (q : Int) < n := by omega
              have hex : strOfNums ((xs.drop q).take 64) = (Pd.pad s).extract (64 * j) (64 * j + 64) := by rw [chunk, HP.out, hq]
              have HLT := Lib.hid hlt
              have hcv : (convert 25 9 (.slice (some ⟨g', q, none⟩) 64 (cap - q))).run Tryz.prog wr = .ok (.string ((Pd.pad s).extract (64 * j) (64 * j + 64))) wr := by
                rw [← hex]
                exact run_convert_bytes_arg wr 25 5 Tryz.underlying25 Tryz.underlying5 g' q 64 (cap - q) _ (by rw [List.length_take, List.length_drop]; omega) (fun l hl => by
                  rw [getD_chunk _ _ _ _ hl]
                  exact hR.cell (q + l) (by omega)) 9 Tryz.underlying9
              have hsz : ((Pd.pad s).extract (64 * j) (64 * j + 64)).size = 64 := by rw [ByteArray.size_extract, Pd.nb_mul]; omega
              have hE : Pd.stAt Pd.K (Pd.pad s) Pd.start (j + 1) = Wd.blk Pd.K (Pd.stAt Pd.K (Pd.pad s) Pd.start j) ((Pd.pad s).extract (64 * j) (64 * j + 64)) := rfl
              have hlo := stAt_lo (Pd.pad s) j
              generalize (Pd.pad s).extract (64 * j) (64 * j + 64) = tx at *
              have HE := Lib.hid hE
              have HLO := Lib.hid (fun l (h : l < 8) => hlo l h)
              have HSZ := Lib.hid hsz
              have HCS := Lib.hid hcS
              clear hE hlo hsz hcS hex hlt hq hj
              go_wp2_with (go_at_call 34; refine (Bl.block_ (Pd.stAt Pd.K (Pd.pad s) Pd.start j) S capS tx _ HSZ.out hS2 HLO.out HCS.out).mono ?_; rintro e w3 ⟨g3, c3, rfl, hc3, hg3, hb3⟩)
              rw [← HE.out] at hc3
              have hB3 := hB.trans (hb3.mono hB.size)
              have hR3 := hR.below hb3 hR.lt
              have hS3 : g3 < w3.heap.size := World.block_lt_of_cell? _ _ (hc3 0 (by omega))
              have hSB3 : w.heap.size ≤ g3 := by have := hB.size; omega
              go_wp2
              go_roundg (Pd.nb s - (j + 1))
              case measure => have := HLT.out; omega
              case rel => exact ⟨j + 1, g3, c3, q + 64, HLT.out, rfl, by rw [HQ.out]; omega, by go_num, rfl, hc3, hSB3, hS3, hR3, hB3⟩
            · have hjn : j = Pd.nb s := by omega
              have hqn : q = n := by rw [hq, HN3.out, hjn]
              have hnq : ¬ ((q : Int) < n) := by omega
              generalize hst : Pd.stAt Pd.K (Pd.pad s) Pd.start j = st at *
              have HST : Hid (Pd.stAt Pd.K (Pd.pad s) Pd.start (Pd.nb s) = st) := Lib.hid (by rw [← hjn]; exact hst)
              have hlo : ∀ l, l < 8 → 0 ≤ st.at l ∧ st.at l < 4294967296 := fun l hl => by rw [← hst]; exact stAt_lo _ _ l hl
              have HLO := Lib.hid hlo
              have HCS := Lib.hid hcS
              clear hst hlo hcS hjn hqn hq hj hlt HQ HJ
              go_wp2
              go_loopw [8, 9, 10] (fun v i _ wr => ∃ (n g' cap : Nat), n ≤ 8 ∧ i = .int .i64 (n : Int) ∧ v = .slice (some ⟨g', 0, none⟩) (4 * n) cap ∧
                  wr.ownsRow (S + 1) 5 1 (.slice (some ⟨g', 0, none⟩) (4 * n) cap) (4 * n) ((Pd.out st n).map (Value.int .u8)) ∧ Below w.heap.size w wr ∧
                  (∀ l, l < 8 → wr.cell? ⟨S, l, none⟩ = some (.int .i64 (st.at l))) ∧ S < wr.heap.size ∧ S < g')
                (fun _ i _ _ => 8 - (intOf i).toNat)
              case atStart => exact ⟨0, wr.heap.size, 0, by omega, rfl, rfl, World.ownsRow_made wr #[] 0 hS2 (by simp [maxLen]) rfl, hB.alloc hB.size _, fun l hl => keepA _ (HCS.out l hl) hS2, by simp; omega, hS2⟩
              case round =>
                clear hB HCS hS2
                obtain ⟨n, g', cap, hn, rfl, rfl, hown, hB, hcS, hS2, hSg⟩ := hrel
                by_cases hl8 : n < 8
                · have hcell := hcS n hl8
                  have HCS := Lib.hid hcS
                  clear hcS
                  have HO : Hid (Pd.out st (n + 1) = Pd.out st n ++ Pd.four (st.at n)) := Lib.hid rfl
                  generalize st.at n = x at hcell HO
                  have k3 : 4 * n + 4 ≤ maxLen := by simp only [maxLen]; omega
                  have k4 : (4 * n + 4) * 1 ≤ 140737488355328 := by omega
                  have k5 : S + 1 ≤ (wr.alloc (.cells #[.int .u8 (x / 16777216 % 256), .int .u8 (x / 65536 % 256), .int .u8 (x / 256 % 256), .int .u8 (x % 256)] 5)).heap.size := by simp; omega
                  go_wp2_with (at_builtin; refine wpList_append_own _ rfl (.tmp 62) (.tmp 74) 25 rfl (S + 1) 5 i0 (.int .u8 0) 1 1 Tryz.underlying25 hi hz0 hz1 hz2 rfl (by decide) _ _ _ rfl (hown.alloc _) ⟨wr.heap.size, 0, none⟩ 4 4 ((Pd.four x).map (Value.int .u8)) rfl rfl (Dg.four_new _ _ _ _ _ _) (Dg.four_cell x) k3 k4 k5 ?_)
                  intro v' w1 hown' hgrow _
                  obtain ⟨g2, cap', rfl, hg', _⟩ := hown'.form (by omega)
                  have hrow : ∀ i, some g' = some i → w.heap.size ≤ i := fun i hi => by
                    injection hi with hi
                    omega
                  have hb' : Below w.heap.size w w1 := (hB.alloc hB.size _).grown hgrow (by omega) hrow
                  have hcS' : ∀ l, l < 8 → w1.cell? ⟨S, l, none⟩ = some (.int .i64 (st.at l)) := fun l hl => by
                    have h1 := hgrow.block S (by simp; omega) (fun e => by
                      have : S = g' := Option.some.inj e
                      omega)
                    rw [World.cell?_of_block (a := ⟨S, l, none⟩) h1]
                    exact keepA _ (HCS.out l hl) hS2
                  have hS2' : S < w1.heap.size := World.block_lt_of_cell? _ _ (hcS' 0 (by omega))
                  have hSg2 : S < g2 := hg'
                  go_wp2
                  go_roundw
                  case rel => exact ⟨n + 1, g2, cap', by omega, by go_num, by rfl, by rw [HO.out, List.map_append]; exact hown', hb', hcS', hS2', hSg2⟩
                  case measure => simp [intOf]; omega
                · have hn8 : n = 8 := by omega
                  have hfin : (convert 25 9 (.slice (some ⟨g', 0, none⟩) (4 * n) cap)).run Tryz.prog wr = .ok (.string (strOfNums (Pd.out st n))) wr :=
                    run_convert_bytes_arg wr 25 5 Tryz.underlying25 Tryz.underlying5 g' 0 (4 * n) cap (Pd.out st n) (Pd.out_len _ _) (fun i hi => by
                      rw [Nat.zero_add, hown.cellAt i (by omega), List.getElem?_map, List.getD_eq_getElem?_getD, List.getElem?_eq_getElem (by rw [Pd.out_len]; exact hi)]
                      rfl) 9 Tryz.underlying9
                  have HD : Hid (strOfNums (Pd.out st n) = Pd.digest s) := Lib.hid (by unfold Pd.digest; rw [hn8, HST.out])
                  clear hn8 hcS
                  generalize strOfNums (Pd.out st n) = res at *
                  go_wp2
                  go_ret
                  exact ⟨ret_str HD.out, hB⟩
end Al
end Go.Proofs.YtlcildmhcohpbaaGreatDoor
