/-
  The walk of the program's take: a block of 64 bytes is taken into a hash.
-/
import Derived.Test.YtlcildmhcohpbaaGreatDoorProg
import Derived.Test.YtlcildmhcohpbaaGreatDoorBase
import Derived.Test.YtlcildmhcohpbaaGreatDoorAr
import Derived.Test.YtlcildmhcohpbaaGreatDoorWd
import Derived.Test.YtlcildmhcohpbaaGreatDoorSc
import Derived.Test.YtlcildmhcohpbaaGreatDoorSt
import Derived.WalkKit
import Derived.WalkSpells
import Derived.WalkLawsBesides
import Derived.Deep.QuietTactic
import Derived.BigQuiet
import Derived.StillTailTactics
namespace Go.Proofs.YtlcildmhcohpbaaGreatDoor
open Go.RowKit
set_option linter.unusedSimpArgs false
set_option linter.unusedVariables false
namespace Tk
/-- a hash's cells: eight words, then 64 keys -/
def H (st : Wd.St) (K : Nat → Int) : Nat → Value := fun j => .int .u32 (if j < 8 then st.at j else K (j - 8))
def vs (st : Wd.St) : Array Value := #[.int .u32 st.a, .int .u32 st.b, .int .u32 st.c, .int .u32 st.d, .int .u32 st.e, .int .u32 st.f, .int .u32 st.g, .int .u32 st.h]
theorem vs_at (st : Wd.St) (i : Nat) (h : i < 8) : (vs st)[i]? = some (.int .u32 (st.at i)) := by
  match i, h with
  | 0, _ => rfl
  | 1, _ => rfl
  | 2, _ => rfl
  | 3, _ => rfl
  | 4, _ => rfl
  | 5, _ => rfl
  | 6, _ => rfl
  | 7, _ => rfl
/-- .. when i words have been added -/
def H2 (st v : Wd.St) (K : Nat → Int) (i : Nat) : Nat → Value := fun j => .int .u32 (if j < 8 then (if j < i then (st.at j + v.at j) % 4294967296 else st.at j) else K (j - 8))
theorem H2_zero (st v : Wd.St) (K : Nat → Int) (i : Nat) : H st K i = H2 st v K 0 i := by
  unfold H H2
  by_cases h : i < 8
  · rw [if_pos h, if_pos h, if_neg (by omega)]
  · rw [if_neg h, if_neg h]
theorem H2_at (st v : Wd.St) (K : Nat → Int) (i : Nat) (h : i < 8) : some (H2 st v K i i) = some (Value.int .u32 (st.at i)) := by
  unfold H2
  rw [if_pos h, if_neg (Nat.lt_irrefl i)]
theorem H2_step (st v : Wd.St) (K : Nat → Int) (n i : Nat) (h : n < 8) : (if i = n then Value.int .u32 ((st.at n + v.at n) % 4294967296) else H2 st v K n i) = H2 st v K (n + 1) i := by
  unfold H2
  by_cases h1 : i = n
  · subst h1
    rw [if_pos rfl, if_pos h, if_pos (by omega)]
  · rw [if_neg h1]
    by_cases h2 : i < 8
    · rw [if_pos h2, if_pos h2]
      by_cases h3 : i < n
      · rw [if_pos h3, if_pos (by omega)]
      · rw [if_neg h3, if_neg (by omega)]
    · rw [if_neg h2, if_neg h2]
theorem H2_done (st v : Wd.St) (K : Nat → Int) (i : Nat) : H2 st v K 8 i = H (Wd.plus st v) K i := by
  unfold H2 H
  by_cases h : i < 8
  · rw [if_pos h, if_pos h, if_pos h, Wd.plus_at _ _ _ h]
  · rw [if_neg h, if_neg h]
theorem vs_one (st : Wd.St) : (vs st).all (·.oneCell') = true := by simp [vs, Value.oneCell']

set_option maxHeartbeats 2000000 in
set_option maxRecDepth 100000 in
theorem take_ (st : Wd.St) (K : Nat → Int) (B : Nat) (s : ByteArray) (w : World) (hs : s.size = 64) (hH : w.rowIs B 72 72 (H st K)) :
    Calls Tryz.prog 47 #[.pointer (some ⟨B, 0, none⟩), .string s] w fun e w' =>
      e = .returned (.tuple #[]) ∧ w'.rowIs B 72 72 (H (Wd.blk K st s) K) ∧ w.grownBy w' (some B) := by
  have hB := hH.lt
  have c0 := hH.cell (i := 0) (by omega)
  have c1 := hH.cell (i := 1) (by omega)
  have c2 := hH.cell (i := 2) (by omega)
  have c3 := hH.cell (i := 3) (by omega)
  have c4 := hH.cell (i := 4) (by omega)
  have c5 := hH.cell (i := 5) (by omega)
  have c6 := hH.cell (i := 6) (by omega)
  have c7 := hH.cell (i := 7) (by omega)
  have HS := Lib.hid hs
  clear hs
  obtain ⟨a, b, c, d, e, f, g, h⟩ := st
  simp only [H, Wd.St.at, show (0 : Nat) < 8 from by decide, show (1 : Nat) < 8 from by decide, show (2 : Nat) < 8 from by decide, show (3 : Nat) < 8 from by decide, show (4 : Nat) < 8 from by decide, show (5 : Nat) < 8 from by decide, show (6 : Nat) < 8 from by decide, show (7 : Nat) < 8 from by decide, if_true] at c0 c1 c2 c3 c4 c5 c6 c7
  go_enter Tryz.func47, Tryz.ntmps47
  go_wp2_with (go_at_call 63; refine (Sc.schedule_ _ _ HS.out).mono ?_; rintro e w1 ⟨rfl, hb1⟩)
  have hV : w1.heap[w.heap.size]? = some (.cells (vs ⟨a, b, c, d, e, f, g, h⟩) 69 (0, 0)) := (hb1.block _ (by simp)).trans (heap_alloc_new w _)
  have hH1 : w1.rowIs B 72 72 (H ⟨a, b, c, d, e, f, g, h⟩ K) := (hH.alloc _).of_block (hb1.block _ (by simp; omega))
  have hG : w.grownBy w1 (some B) := grown_below (World.grownBy_alloc w _ _) hb1 (by simp)
  have hI : (Tryz.prog.info? 69).map (·.size) = some 8 := by kernel_rfl
  have HI := Lib.hid hI
  clear hI
  clear hb1 c0 c1 c2 c3 c4 c5 c6 c7 hH
  go_loopw [22] (fun i wr => ∃ n : Nat, n ≤ 64 ∧ i = .int .i64 n ∧ wr.heap[w.heap.size]? = some (.cells (vs (Wd.rounds K (Wd.W (Wd.word s)) ⟨a, b, c, d, e, f, g, h⟩ n)) 69 (0, 0)) ∧
      wr.rowIs B 72 72 (H ⟨a, b, c, d, e, f, g, h⟩ K) ∧ w.grownBy wr (some B)) (fun i _ => 64 - (intOf i).toNat)
  case atStart => exact ⟨0, Nat.zero_le _, rfl, hV, hH1, hG⟩
  case round =>
    clear hV hH1 hG
    obtain ⟨n, hn, rfl, hV, hH, hG⟩ := hrel
    by_cases hlt : n < 64
    · have hix := Ar.run_index_arr (P := Tryz.prog) (cs := Ar.ws 64 (Wd.W (Wd.word s))) Tryz.underlying70 Tryz.underlying58 rfl (by kernel_rfl) hlt (Ar.ws_at 64 (Wd.W (Wd.word s)) n hlt) .i64
      have hR : Wd.rounds K (Wd.W (Wd.word s)) ⟨a, b, c, d, e, f, g, h⟩ (n + 1) = Wd.rnd (Wd.rounds K (Wd.W (Wd.word s)) ⟨a, b, c, d, e, f, g, h⟩ n) (K n) (Wd.W (Wd.word s) n) := rfl
      generalize Wd.rounds K (Wd.W (Wd.word s)) ⟨a, b, c, d, e, f, g, h⟩ n = st at hV hR
      obtain ⟨a1, b1, c1, d1, e1, f1, g1, h1⟩ := st
      have v0 := (cell_of_row wr w.heap.size 0 _ _ _ hV).trans (show _ = some (Value.int .u32 a1) from rfl)
      have v1 := (cell_of_row wr w.heap.size 1 _ _ _ hV).trans (show _ = some (Value.int .u32 b1) from rfl)
      have v2 := (cell_of_row wr w.heap.size 2 _ _ _ hV).trans (show _ = some (Value.int .u32 c1) from rfl)
      have v3 := (cell_of_row wr w.heap.size 3 _ _ _ hV).trans (show _ = some (Value.int .u32 d1) from rfl)
      have v4 := (cell_of_row wr w.heap.size 4 _ _ _ hV).trans (show _ = some (Value.int .u32 e1) from rfl)
      have v5 := (cell_of_row wr w.heap.size 5 _ _ _ hV).trans (show _ = some (Value.int .u32 f1) from rfl)
      have v6 := (cell_of_row wr w.heap.size 6 _ _ _ hV).trans (show _ = some (Value.int .u32 g1) from rfl)
      have v7 := (cell_of_row wr w.heap.size 7 _ _ _ hV).trans (show _ = some (Value.int .u32 h1) from rfl)
      have HV := Lib.hid hV
      clear hV
      have hk := hH.cell (i := 8 + n) (by omega)
      have ek : H ⟨a, b, c, d, e, f, g, h⟩ K (8 + n) = .int .u32 (K n) := by unfold H; rw [if_neg (by omega), show 8 + n - 8 = n from by omega]
      rw [ek] at hk
      clear ek
      generalize Wd.W (Wd.word s) n = wn at hix hR
      generalize K n = kn at hk hR
      have HR := Lib.hid hR
      clear hR
      have hsg : IntKind.u32.signed = false := rfl
      go_wp2
      go_quiet (fail)
      obtain ⟨w2, hw2⟩ : ∃ w2, wr.drewN nq = w2 := ⟨_, rfl⟩
      rw [hw2]
      have u3 : w2.cell? ⟨w.heap.size, 3, none⟩ = some (Value.int .u32 d1) := by rw [← hw2]; exact v3
      have u7 : w2.cell? ⟨w.heap.size, 7, none⟩ = some (Value.int .u32 h1) := by rw [← hw2]; exact v7
      have uk : w2.cell? ⟨B, 8 + n, none⟩ = some (Value.int .u32 kn) := by rw [← hw2]; exact hk
      have UV : Hid (w2.heap[w.heap.size]? = some (.cells (vs ⟨a1, b1, c1, d1, e1, f1, g1, h1⟩) 69 (0, 0))) := by rw [← hw2]; exact HV
      have uH : w2.rowIs B 72 72 (H ⟨a, b, c, d, e, f, g, h⟩ K) := by rw [← hw2]; exact hH
      have uG : w.grownBy w2 (some B) := by rw [← hw2]; exact grown_drewN hG _
      clear hw2 v0 v1 v2 v3 v4 v5 v6 v7 hk HV hH hG
      go_wp2_with fail
      go_quiet ((go_at_call 64; exact quiet_left (Rt.right_ _ _ _ (by omega) (by omega))))
      obtain ⟨w3, hw3⟩ : ∃ w3, w2.drewN nq = w3 := ⟨_, rfl⟩
      rw [hw3]
      have x3 : w3.cell? ⟨w.heap.size, 3, none⟩ = some (Value.int .u32 d1) := by rw [← hw3]; exact u3
      have XV : Hid (w3.heap[w.heap.size]? = some (.cells (vs ⟨a1, b1, c1, d1, e1, f1, g1, h1⟩) 69 (0, 0))) := by rw [← hw3]; exact UV
      have xH : w3.rowIs B 72 72 (H ⟨a, b, c, d, e, f, g, h⟩ K) := by rw [← hw3]; exact uH
      have xG : w.grownBy w3 (some B) := by rw [← hw3]; exact grown_drewN uG _
      clear hw3 u3 u7 uk UV uH uG
      go_wp2_with (first
        | (go_at_call 64; refine (Rt.right_ _ _ _ (by omega) (by omega)).mono ?_; rintro e w' ⟨rfl, rfl⟩)
        | (refine wpList_store_row rfl 69 (.tmp 4) (.tmp 100) rfl w.heap.size (vs ⟨_, _, _, _, _, _, _, _⟩) rfl rfl 69 _ XV.out HI.out rfl (vs_one _) ?_))
      go_roundw
      case rel =>
        refine ⟨n + 1, by omega, by go_num, (Ar.setRow_at XV.out).trans ?_, xH.of_block (Ar.setRow_far _ (by omega)), grown_row xG (by omega) _⟩
        rw [HR.out]
        rfl
      case measure => simp [intOf]; omega
    · have hn64 : n = 64 := by omega
      rw [hn64] at hV
      clear hn64
      generalize hv : Wd.rounds K (Wd.W (Wd.word s)) ⟨a, b, c, d, e, f, g, h⟩ 64 = v at hV
      generalize hst : (⟨a, b, c, d, e, f, g, h⟩ : Wd.St) = st at hH hv
      have HV := Lib.hid hv
      have HST := Lib.hid hst
      clear hv hst
      go_wp2
      go_loopw [102] (fun i wr => ∃ n : Nat, n ≤ 8 ∧ i = .int .i64 n ∧ wr.heap[w.heap.size]? = some (.cells (vs v) 69 (0, 0)) ∧
        wr.rowIs B 72 72 (H2 st v K n) ∧ w.grownBy wr (some B)) (fun i _ => 8 - (intOf i).toNat)
      case atStart => exact ⟨0, Nat.zero_le _, rfl, hV, hH.congr (fun i hi => H2_zero st v K i), hG⟩
      case round =>
        clear hV hH hG
        obtain ⟨n, hn, rfl, hV, hH, hG⟩ := hrel
        by_cases hl8 : n < 8
        · have x1 := (cell_of_row _ w.heap.size n _ _ _ hV).trans (vs_at v n hl8)
          have x2 := (hH.cell (i := n) (by omega)).trans (H2_at st v K n hl8)
          have x3 := hH.frozen n
          have XV := Lib.hid hV
          clear hV
          go_wp2_with fail
          obtain ⟨w2, hw2⟩ : ∃ w2, wr.drew = w2 := ⟨_, rfl⟩
          have y1 : w2.cell? ⟨w.heap.size, n, none⟩ = some (.int .u32 (v.at n)) := by rw [← hw2]; exact x1
          have y2 : w2.cell? ⟨B, n, none⟩ = some (.int .u32 (st.at n)) := by rw [← hw2]; exact x2
          have y3 : w2.frozen? ⟨B, n, none⟩ = false := by rw [← hw2]; exact x3
          have YV : Hid (w2.heap[w.heap.size]? = some (.cells (vs v) 69 (0, 0))) := by rw [← hw2]; exact XV
          have yH : w2.rowIs B 72 72 (H2 st v K n) := by rw [← hw2]; exact hH
          have yG : w.grownBy w2 (some B) := by rw [← hw2]; exact grown_drew hG
          refine region_tail 13 (by kernel_rfl) (by kernel_rfl) w2 hw2 ?_
          clear hw2 x1 x2 x3 XV hH hG
          simp only [List.take_succ_cons, List.take_zero, List.drop_succ_cons, List.drop_zero]
          repeat still_step
          refine wpStill_nil ?_
          go_wp2
          go_roundw
          case rel => exact ⟨n + 1, by omega, by go_num, (Below.heap_setCell _ _ _ _ (by simp; omega)).trans YV.out, (yH.set n _).congr (fun i hi => H2_step st v K n i hl8), grown_set yG (.inl rfl) _⟩
          case measure => simp [intOf]; omega
        · obtain rfl : n = 8 := by omega
          go_wp2
          go_end0
          refine ⟨rfl, hH.congr (fun i hi => ?_), hG⟩
          rw [H2_done, HST.out]
          unfold Wd.blk
          rw [← HV.out]
end Tk
end Go.Proofs.YtlcildmhcohpbaaGreatDoor
