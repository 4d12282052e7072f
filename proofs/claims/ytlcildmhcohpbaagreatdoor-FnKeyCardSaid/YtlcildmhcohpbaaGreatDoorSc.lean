/-
  The walk of the program's schedule: the 64 words of a block of 64 bytes.
-/
import Derived.Test.YtlcildmhcohpbaaGreatDoorProg
import Derived.Test.YtlcildmhcohpbaaGreatDoorBase
import Derived.Test.YtlcildmhcohpbaaGreatDoorAr
import Derived.Test.YtlcildmhcohpbaaGreatDoorWd
import Derived.WalkKit
import Derived.WalkSpells
import Derived.WalkLawsBesides
import Derived.Lib.ConvBytes
import Derived.Deep.QuietTactic
import Derived.BigQuiet
import Derived.StillTailTactics
namespace Go.Proofs.YtlcildmhcohpbaaGreatDoor
open Go.RowKit
set_option linter.unusedSimpArgs false
set_option linter.unusedVariables false
namespace Sc
theorem z65 : (Tryz.prog.info? 70).map (fun i => (i.zero, i.size)) = some (some (.agg Ar.z64), 64) := by kernel_rfl
theorem b65 : Tryz.prog.built 70 [] = some Ar.z64 := by kernel_rfl

/-- the words when i of them are there, and t bytes of the next -/
def R (s : ByteArray) (i t : Nat) : Nat → Value := fun j => .int .u32 (if j < i then Wd.W (Wd.word s) j else if j = i then Wd.acc s i t else 0)

theorem bytesBelow {B : Nat} {a w : World} (h : Below B a w) (hB : B ≤ w.heap.size) (e : TypeId) (s : ByteArray) : Below B a (Lib.bytesWorld w e s) :=
  ⟨h.os, h.tape, h.output, by rw [Lib.bytesWorld_size]; have := h.size; omega, fun k hk => (Lib.bytesWorld_at_old w e s k (by omega)).trans (h.block k hk)⟩

theorem ext_at (s : ByteArray) (a b j : Nat) (hb : b ≤ s.size) (hj : j < b - a) : (s.extract a b).data.toList.getD j 0 = s.data.toList.getD (a + j) 0 := by
  have h1 : (s.extract a b).data.toList = (s.data.extract a b).toList := by rw [ByteArray.data_extract]
  rw [h1, List.getD_eq_getElem?_getD, List.getD_eq_getElem?_getD, Array.getElem?_toList, Array.getElem?_toList, Array.getElem?_extract, if_pos]
  have h2 : s.data.size = s.size := rfl
  omega
theorem R_done (s : ByteArray) (n i : Nat) (h : n < 16) : R s n 4 i = R s (n + 1) 0 i := by
  unfold R
  by_cases h1 : i < n
  · rw [if_pos h1, if_pos (by omega)]
  · rw [if_neg h1]
    by_cases h2 : i = n
    · subst h2
      rw [if_pos rfl, if_pos (by omega), Wd.W_lo _ _ h]
      rfl
    · rw [if_neg h2, if_neg (by omega)]
      congr 1
      split <;> rfl
set_option maxHeartbeats 1000000 in
set_option maxRecDepth 100000 in
theorem schedule_ (s : ByteArray) (w : World) (hs : s.size = 64) : Calls Tryz.prog 63 #[.string s] w fun e w' =>
    e = .returned (.agg (Ar.ws 64 (Wd.W (Wd.word s)))) ∧ Below w.heap.size w w' := by
  obtain ⟨hz, hsz⟩ := zero_of_info z65
  have HZ := Lib.hid hz
  have HI : Hid ((Tryz.prog.info? 70).map (·.size) = some Ar.z64.size) := Lib.hid (by rw [hsz, Ar.z64_size])
  have HL := Lib.hid hs
  clear hz hsz hs
  go_enter Tryz.func63, Tryz.ntmps63
  go_wp2_with (first
    | (with_reducible refine Ar.wpList_alloc_z rfl 70 rfl Ar.z64 HZ.out ?_)
    | (with_reducible refine Ar.wpList_build_nil rfl 70 rfl Ar.z64 b65 ?_)
    | (refine Ar.wpList_store_new rfl 70 (.tmp 3) (.tmp 11) rfl (w.alloc (.cells Ar.z64 70)) rfl Ar.z64 rfl rfl HI.out rfl Ar.z64_one ?_))
  have hcv := fun (w : World) (b : ByteArray) => Lib.run_convert_string_bytes (P := Tryz.prog) w 9 25 5 b Tryz.underlying9 Tryz.underlying25 Tryz.underlying5
  have b0 : ((w.alloc (.cells Ar.z64 70)).alloc (.cells Ar.z64 70)).heap[w.heap.size]? = some (.cells Ar.z64 70 (0, 0)) := heap_alloc2_old w _ _
  have b1 : ((w.alloc (.cells Ar.z64 70)).alloc (.cells Ar.z64 70)).rowIs (w.heap.size + 1) 70 64 (R s 0 0) :=
    ⟨Ar.z64, heap_alloc2_new w _ _, Ar.z64_size, fun i hi => by rw [Ar.z64_at i hi]; unfold R; rw [if_neg (by omega)]; congr 2; split <;> rfl⟩
  have B0 : Below w.heap.size w ((w.alloc (.cells Ar.z64 70)).alloc (.cells Ar.z64 70)) := ((Below.refl _ _).alloc (Nat.le_refl _) _).alloc (by simp) _
  generalize (w.alloc (.cells Ar.z64 70)).alloc (.cells Ar.z64 70) = w1 at *
  go_loopw [12] (fun i wr => ∃ n : Nat, n ≤ 64 ∧ i = .int .i64 n ∧ wr.heap[w.heap.size]? = some (.cells Ar.z64 70 (0, 0)) ∧ wr.rowIs (w.heap.size + 1) 70 64 (R s n 0) ∧ Below w.heap.size w wr)
    (fun i _ => 64 - (intOf i).toNat)
  case atStart => exact ⟨0, Nat.zero_le _, rfl, b0, b1, B0⟩
  case round =>
    clear b0 b1 B0
    obtain ⟨n, hn, rfl, hb0, hb1, hB⟩ := hrel
    have HB0 := Lib.hid hb0
    clear hb0
    by_cases hlt : n < 64
    · by_cases h16 : n < 16
      · have hsz : 4 * n + 4 ≤ s.size := by rw [HL.out]; omega
        have hsz2 : s.size ≤ 64 := by rw [HL.out]; omega
        have hmin : min ((n + 1) * 4) s.size - n * 4 = 4 := by omega
        have HM := Lib.hid hmin
        clear hmin
        go_wp2
        rw [HM.out]
        have hx : ∀ t, t < 4 → (Lib.bytesWorld wr 5 (s.extract (n * 4) ((n + 1) * 4))).cell? ⟨wr.heap.size, t, none⟩ = some (.int .u8 (Wd.bt s (4 * n + t))) := fun t ht => by
          rw [Lib.bytesWorld_cell _ _ _ _ (by rw [ByteArray.size_extract]; omega), ext_at s _ _ _ (by omega) (by omega)]
          unfold Wd.bt
          rw [show n * 4 + t = 4 * n + t from by omega]
        have hne : w.heap.size + 1 < wr.heap.size := hb1.lt
        have c0 : (Lib.bytesWorld wr 5 (s.extract (n * 4) ((n + 1) * 4))).heap[w.heap.size]? = some (.cells Ar.z64 70 (0, 0)) := (Lib.bytesWorld_at_old _ _ _ _ (by omega)).trans HB0.out
        have c1 := hb1.of_block (Lib.bytesWorld_at_old wr 5 (s.extract (n * 4) ((n + 1) * 4)) _ hne)
        have cB := bytesBelow hB (by omega) 5 (s.extract (n * 4) ((n + 1) * 4))
        generalize grownCap wr 4 0 5 = cap
        generalize Lib.bytesWorld wr 5 (s.extract (n * 4) ((n + 1) * 4)) = wb at *
        generalize hbb : wr.heap.size = bb at *
        clear HB0 hb1 hB hbb HM
        go_loopw [26] (fun i wi => ∃ t : Nat, t ≤ 4 ∧ i = .int .i64 t ∧ wi.heap[w.heap.size]? = some (.cells Ar.z64 70 (0, 0)) ∧ wi.rowIs (w.heap.size + 1) 70 64 (R s n t) ∧ Below w.heap.size w wi ∧
            (∀ t, t < 4 → wi.cell? ⟨bb, t, none⟩ = some (.int .u8 (Wd.bt s (4 * n + t)))))
          (fun i _ => 4 - (intOf i).toNat)
        case atStart => exact ⟨0, Nat.zero_le _, rfl, c0, c1, cB, hx⟩
        case round =>
          clear c0 c1 cB hx
          obtain ⟨t, ht, rfl, c0, c1, cB, hx⟩ := hrel
          have C0 := Lib.hid c0
          have HX := Lib.hid hx
          clear c0 hx
          by_cases ht4 : t < 4
          · have x1 := HX.out t ht4
            have x2 := c1.cell (i := n) hlt
            have x3 := c1.frozen n
            have e2 : R s n t n = .int .u32 (Wd.acc s n t) := by unfold R; rw [if_neg (Nat.lt_irrefl n), if_pos rfl]
            rw [e2] at x2
            clear e2
            have k0 := Wd.bt_lo s (4 * n + t)
            have k1 := Wd.bt_hi s (4 * n + t)
            have k2 := (Wd.acc_bd s n t).1
            have k3 : Wd.acc s n t < 16777216 := by
              have h1 := (Wd.acc_bd s n t).2
              have h2 : t = 0 ∨ t = 1 ∨ t = 2 ∨ t = 3 := by omega
              rcases h2 with rfl | rfl | rfl | rfl <;> simp at h1 <;> omega
            have E1 := Lib.hid (Wd.or_byte _ _ k2 k3 k0 k1)
            have E2 : Hid (Wd.acc s n t * 256 + Wd.bt s (4 * n + t) = Wd.acc s n (t + 1)) := Lib.hid rfl
            generalize Wd.bt s (4 * n + t) = bv at *
            generalize Wd.acc s n t = av at *
            go_wp2
            go_roundw
            case rel =>
              refine ⟨t + 1, by omega, by go_num, (Below.heap_setCell _ _ _ _ (by simp)).trans C0.out, ?_, cB.setCell (by simp) _, fun t' ht' => (cell_far _ (by simp; omega)).trans (HX.out t' ht')⟩
              refine (c1.set n _).congr (fun i hi => ?_)
              rw [E1.out, E2.out]
              unfold R
              by_cases h2 : i = n
              · subst h2
                rw [if_pos rfl, if_neg (Nat.lt_irrefl _), if_pos rfl]
              · rw [if_neg h2, if_neg h2, if_neg h2]
            case measure => simp [intOf]; omega
          · obtain rfl : t = 4 := by omega
            go_wp2
            go_roundw
            case rel => exact ⟨n + 1, by omega, by go_num, C0.out, c1.congr (fun i hi => R_done s n i h16), cB⟩
            case measure => simp [intOf]; omega
      · have v1 := hb1.cell (i := n - 15) (by omega)
        have v2 := hb1.cell (i := n - 2) (by omega)
        have v3 := hb1.cell (i := n - 16) (by omega)
        have v4 := hb1.cell (i := n - 7) (by omega)
        have v5 := hb1.cell (i := n) (by omega)
        have v6 := hb1.frozen n
        have e1 : R s n 0 (n - 15) = .int .u32 (Wd.W (Wd.word s) (n - 15)) := by unfold R; rw [if_pos (by omega)]
        have e2 : R s n 0 (n - 2) = .int .u32 (Wd.W (Wd.word s) (n - 2)) := by unfold R; rw [if_pos (by omega)]
        have e3 : R s n 0 (n - 16) = .int .u32 (Wd.W (Wd.word s) (n - 16)) := by unfold R; rw [if_pos (by omega)]
        have e4 : R s n 0 (n - 7) = .int .u32 (Wd.W (Wd.word s) (n - 7)) := by unfold R; rw [if_pos (by omega)]
        rw [e1] at v1
        rw [e2] at v2
        rw [e3] at v3
        rw [e4] at v4
        clear e1 e2 e3 e4
        have HN := Lib.hid (Wd.W_hi (Wd.word s) n h16)
        have i1 : IntKind.i64.wrap ((n : Int) - 15) = (n : Int) - 15 := IntWalk.i64_in _ (by omega)
        have i2 : IntKind.i64.wrap ((n : Int) - 2) = (n : Int) - 2 := IntWalk.i64_in _ (by omega)
        have i3 : IntKind.i64.wrap ((n : Int) - 16) = (n : Int) - 16 := IntWalk.i64_in _ (by omega)
        have i4 : IntKind.i64.wrap ((n : Int) - 7) = (n : Int) - 7 := IntWalk.i64_in _ (by omega)
        have j1 : 0 ≤ (n : Int) - 15 := by omega
        have j2 : 0 ≤ (n : Int) - 2 := by omega
        have j3 : 0 ≤ (n : Int) - 16 := by omega
        have j4 : 0 ≤ (n : Int) - 7 := by omega
        have l1 : (n : Int) - 15 < 64 := by omega
        have l2 : (n : Int) - 2 < 64 := by omega
        have l3 : (n : Int) - 16 < 64 := by omega
        have l4 : (n : Int) - 7 < 64 := by omega
        have m1 : 15 ≤ (n : Int) := by omega
        have m2 : 2 ≤ (n : Int) := by omega
        have m4 : 7 ≤ (n : Int) := by omega
        have k1 : ((n : Int) - 15).toNat = n - 15 := by omega
        have k2 : ((n : Int) - 2).toNat = n - 2 := by omega
        have k3 : ((n : Int) - 16).toNat = n - 16 := by omega
        have k4 : ((n : Int) - 7).toNat = n - 7 := by omega
        go_wp2
        go_quiet (fail)
        go_wp2_with (go_at_call 64; refine (Rt.right_ _ _ _ (by omega) (by omega)).mono ?_; rintro e w' ⟨rfl, rfl⟩)
        obtain ⟨w2, hw2⟩ : ∃ w2, (wr.drewN nq).drew = w2 := ⟨_, rfl⟩
        have g1 : w2.rowIs (w.heap.size + 1) 70 64 (R s n 0) := by rw [← hw2]; exact hb1
        have g2 : w2.heap[w.heap.size]? = some (.cells Ar.z64 70 (0, 0)) := by rw [← hw2]; exact HB0.out
        have g3 : Below w.heap.size w w2 := by rw [← hw2]; exact (below_drewN hB nq).drew
        have g4 : w2.cell? ⟨w.heap.size + 1, n - 16, none⟩ = some (.int .u32 (Wd.W (Wd.word s) (n - 16))) := by rw [← hw2]; exact v3
        have g5 : w2.cell? ⟨w.heap.size + 1, n - 7, none⟩ = some (.int .u32 (Wd.W (Wd.word s) (n - 7))) := by rw [← hw2]; exact v4
        have g6 : w2.cell? ⟨w.heap.size + 1, n, none⟩ = some (R s n 0 n) := by rw [← hw2]; exact v5
        have g7 : w2.frozen? ⟨w.heap.size + 1, n, none⟩ = false := by rw [← hw2]; exact v6
        refine region_tail 15 (by kernel_rfl) (by kernel_rfl) w2 hw2 ?_
        clear hw2 HB0 hb1 hB v1 v2 v3 v4 v5 v6
        simp only [List.take_succ_cons, List.take_zero, List.drop_succ_cons, List.drop_zero]
        have G2 := Lib.hid g2
        clear g2
        repeat still_step
        refine wpStill_nil ?_
        go_wp2
        go_roundw
        case rel =>
          refine ⟨n + 1, by omega, by go_num, (Below.heap_setCell _ _ _ _ (by simp)).trans G2.out, ?_, g3.setCell (by simp) _⟩
          refine (g1.set n _).congr (fun i hi => ?_)
          unfold R
          by_cases h2 : i = n
          · subst h2
            rw [if_pos rfl, if_pos (by omega), HN.out]
            rfl
          · rw [if_neg h2, if_neg h2]
            by_cases h3 : i < n
            · rw [if_pos h3, if_pos (by omega)]
            · rw [if_neg h3, if_neg (by omega)]
              congr 1
              split <;> rfl
        case measure => simp [intOf]; omega
    · obtain rfl : n = 64 := by omega
      have hblk : wr.heap[w.heap.size + 1]? = some (.cells (Ar.ws 64 (Wd.W (Wd.word s))) 70 (0, 0)) := Ar.row_block (hb1.congr (fun i hi => by unfold R; rw [if_pos hi]))
      have HK := Lib.hid hblk
      clear hblk hb1
      have HI2 : Hid ((Tryz.prog.info? 70).map (·.size) = some (Ar.ws 64 (Wd.W (Wd.word s))).size) := Lib.hid (by rw [HI.out, Ar.z64_size, Ar.ws_size])
      generalize hW : Wd.W (Wd.word s) = Ws at *
      go_wp2_with (first
        | (refine wpList_load_row rfl 70 (.tmp 3) rfl (w.heap.size + 1) rfl 70 (Ar.ws 64 Ws) (0, 0) (.array 64 58) HK.out Tryz.underlying70 rfl HI2.out ?_)
        | (refine wpList_store_row rfl 70 (.tmp 2) (.tmp 80) rfl w.heap.size (Ar.ws 64 Ws) rfl rfl 70 Ar.z64 HB0.out HI2.out (by rw [Ar.z64_size, Ar.ws_size]) (Ar.ws_one 64 Ws) ?_))
      refine bodyPost_ret (v := .agg (Ar.ws 64 Ws)) ?_ rfl ⟨by rw [← hW], Ar.below_setRow hB (Nat.le_refl _) _⟩
      exact results_cell_row (fn := Tryz.f63) rfl _ _ w.heap.size 70 (Ar.ws 64 Ws) (0, 0) (.array 64 58) rfl (Ar.setRow_at HB0.out) Tryz.underlying70 rfl HI2.out
end Sc
end Go.Proofs.YtlcildmhcohpbaaGreatDoor
