/-
  The walk of the reference's l02Block.
-/
import Derived.Test.YtlcildmhcohpbaaGreatDoorBk
import Derived.Test.YtlcildmhcohpbaaGreatDoorTk
import Derived.Deep.AppendLies
import Derived.Deep.RegionHeld3
namespace Go.Proofs.YtlcildmhcohpbaaGreatDoor
open Go.RowKit
set_option linter.unusedSimpArgs false
set_option linter.unusedVariables false
namespace Bl
theorem run_index_str {P : Program} {t : TypeId} (ht : P.underlying t = some .string) (s : ByteArray) (i : Nat) (hi : i < s.size) (k : IntKind) (n : Int) (hn : n = (i : Int)) (w : World) :
    (Instr.index t (.string s) (.int k n)).run P w = .ok (.int .u8 (Wd.bt s i)) w := by
  subst hn
  have h1 : s[(i : Int).toNat]? = some (s[i]'hi) := by
    rw [Int.toNat_natCast]
    exact getElem?_pos s i hi
  have h2 : Wd.bt s i = ((s[i]'hi).toNat : Int) := by
    unfold Wd.bt
    rw [List.getD_eq_getElem?_getD, Array.getElem?_toList]
    have : s.data[i]? = some (s[i]'hi) := Array.getElem?_eq_getElem hi
    rw [this]
    rfl
  have h3 : (0 : Int) ≤ (i : Int) := by omega
  simp [Instr.index, asIntOf, run_underlying ht, h2, getElem?_pos s i hi]
theorem or_join (a b : Int) (k : Nat) (h0 : 0 ≤ a) (h1 : 0 ≤ b) (h2 : b < 2 ^ k) (h3 : a * 2 ^ k + b < 4294967296) : bits .or .u32 (a * 2 ^ k) b = a * 2 ^ k + b := by
  obtain ⟨A, rfl⟩ := Int.eq_ofNat_of_zero_le h0
  obtain ⟨B, rfl⟩ := Int.eq_ofNat_of_zero_le h1
  have e : ((A : Int) * 2 ^ k) = ((A * 2 ^ k : Nat) : Int) := by simp
  rw [e] at h3 ⊢
  rw [u32_or _ _ (by omega) (by omega) (by omega) (by omega), Int.toNat_natCast, Int.toNat_natCast]
  have hB : B < 2 ^ k := by
    have : ((2 : Int) ^ k) = ((2 ^ k : Nat) : Int) := by simp
    omega
  rw [← Nat.shiftLeft_eq, ← Nat.shiftLeft_add_eq_or_of_lt hB, Nat.shiftLeft_eq]
  omega
theorem step_ (s : ByteArray) (n i : Nat) : (if i = n then Value.int .u32 (Wd.W (Wd.word s) n) else Sc.R s n 0 i) = Sc.R s (n + 1) 0 i := by
  unfold Sc.R
  by_cases h2 : i = n
  · subst h2
    rw [if_pos rfl, if_pos (by omega)]
  · rw [if_neg h2, if_neg h2]
    by_cases h3 : i < n
    · rw [if_pos h3, if_pos (by omega)]
    · rw [if_neg h3, if_neg (by omega)]
      congr 1
      split <;> rfl
theorem or4 (s : ByteArray) (n : Nat) :
    bits .or .u32 (bits .or .u32 (bits .or .u32 (Wd.bt s (4 * n) * 16777216) (Wd.bt s (4 * n + 1) * 65536)) (Wd.bt s (4 * n + 2) * 256)) (Wd.bt s (4 * n + 3)) = Wd.word s n := by
  have d0 := Wd.bt_lo s (4 * n)
  have d1 := Wd.bt_lo s (4 * n + 1)
  have d2 := Wd.bt_lo s (4 * n + 2)
  have d3 := Wd.bt_lo s (4 * n + 3)
  have e0 := Wd.bt_hi s (4 * n)
  have e1 := Wd.bt_hi s (4 * n + 1)
  have e2 := Wd.bt_hi s (4 * n + 2)
  have e3 := Wd.bt_hi s (4 * n + 3)
  have hw : Wd.word s n = (((0 * 256 + Wd.bt s (4 * n)) * 256 + Wd.bt s (4 * n + 1)) * 256 + Wd.bt s (4 * n + 2)) * 256 + Wd.bt s (4 * n + 3) := rfl
  rw [hw]
  generalize Wd.bt s (4 * n) = b0 at *
  generalize Wd.bt s (4 * n + 1) = b1 at *
  generalize Wd.bt s (4 * n + 2) = b2 at *
  generalize Wd.bt s (4 * n + 3) = b3 at *
  have h1 := or_join b0 (b1 * 65536) 24 d0 (by omega) (by omega) (by omega)
  have h2 := or_join (b0 * 256 + b1) (b2 * 256) 16 (by omega) (by omega) (by omega) (by omega)
  have h3 := or_join ((b0 * 256 + b1) * 256 + b2) b3 8 (by omega) (by omega) (by omega) (by omega)
  simp only [show (2 : Int) ^ 24 = 16777216 from rfl, show (2 : Int) ^ 16 = 65536 from rfl, show (2 : Int) ^ 8 = 256 from rfl] at h1 h2 h3
  rw [h1, show b0 * 16777216 + b1 * 65536 = (b0 * 256 + b1) * 65536 from by omega, h2, show (b0 * 256 + b1) * 65536 + b2 * 256 = ((b0 * 256 + b1) * 256 + b2) * 256 from by omega, h3]
  omega
theorem mod2 (x y : Int) : (x % 4294967296 + y % 4294967296) % 4294967296 = (x + y) % 4294967296 := by omega
theorem mod1 (x y : Int) : (x + y % 4294967296) % 4294967296 = (x + y) % 4294967296 := by omega
theorem info_i64 : (Tryz.prog.info? 2).map (fun i => (i.zero, i.size, i.bytes)) = some (some (.int .i64 0), 1, 8) := by kernel_rfl
set_option maxHeartbeats 4000000 in
set_option maxRecDepth 100000 in
theorem block_ (st : Wd.St) (S cap : Nat) (s : ByteArray) (w : World) (hs : s.size = 64) (hS : S < w.heap.size) (hst : ∀ j, j < 8 → 0 ≤ st.at j ∧ st.at j < 4294967296)
    (hc : ∀ j, j < 8 → w.cell? ⟨S, j, none⟩ = some (.int .i64 (st.at j))) :
    Calls Tryz.prog 34 #[.slice (some ⟨S, 0, none⟩) 8 cap, .string s] w fun e w' => ∃ g cap', e = .returned (.slice (some ⟨g, 0, none⟩) 8 cap') ∧
      (∀ j, j < 8 → w'.cell? ⟨g, j, none⟩ = some (.int .i64 ((Wd.blk Pd.K st s).at j))) ∧ w.heap.size ≤ g ∧ Below w.heap.size w w' := by
  have HS := Lib.hid hs
  have HST := Lib.hid hst
  have HC := Lib.hid hc
  clear hs hst hc
  have hmk := Bk.make_
  go_enter Tryz.func34, Tryz.ntmps34
  go_wp2_with fail
  clear hmk
  have hr0 : (w.alloc (.cells Ar.z64 58)).rowIs w.heap.size 58 64 (Sc.R s 0 0) :=
    ⟨Ar.z64, heap_alloc_new w _, Ar.z64_size, fun i hi => by rw [Ar.z64_at i hi]; unfold Sc.R; rw [if_neg (by omega)]; congr 2; split <;> rfl⟩
  have hb0 : Below w.heap.size w (w.alloc (.cells Ar.z64 58)) := (Below.refl _ _).alloc (Nat.le_refl _) _
  generalize w.alloc (.cells Ar.z64 58) = w0 at *
  go_loopw [6] (fun i wr => ∃ n : Nat, n ≤ 16 ∧ i = .int .i64 n ∧ wr.rowIs w.heap.size 58 64 (Sc.R s n 0) ∧ Below w.heap.size w wr) (fun i _ => 16 - (intOf i).toNat)
  case atStart => exact ⟨0, Nat.zero_le _, rfl, hr0, hb0⟩
  case round =>
    clear hr0 hb0
    obtain ⟨n, hn, rfl, hr, hB⟩ := hrel
    by_cases hlt : n < 16
    · have x0 := run_index_str (P := Tryz.prog) Tryz.underlying9 s (4 * n) (by rw [HS.out]; omega) .i64 (4 * (n : Int)) (by omega)
      have x1 := run_index_str (P := Tryz.prog) Tryz.underlying9 s (4 * n + 1) (by rw [HS.out]; omega) .i64 (4 * (n : Int) + 1) (by omega)
      have x2 := run_index_str (P := Tryz.prog) Tryz.underlying9 s (4 * n + 2) (by rw [HS.out]; omega) .i64 (4 * (n : Int) + 2) (by omega)
      have x3 := run_index_str (P := Tryz.prog) Tryz.underlying9 s (4 * n + 3) (by rw [HS.out]; omega) .i64 (4 * (n : Int) + 3) (by omega)
      have i0 : IntKind.i64.wrap (4 * (n : Int)) = 4 * (n : Int) := IntWalk.i64_in _ (by omega)
      have i1 : IntKind.i64.wrap (4 * (n : Int) + 1) = 4 * (n : Int) + 1 := IntWalk.i64_in _ (by omega)
      have i2 : IntKind.i64.wrap (4 * (n : Int) + 2) = 4 * (n : Int) + 2 := IntWalk.i64_in _ (by omega)
      have i3 : IntKind.i64.wrap (4 * (n : Int) + 3) = 4 * (n : Int) + 3 := IntWalk.i64_in _ (by omega)
      have HO := Lib.hid (or4 s n)
      have d0 := Wd.bt_lo s (4 * n)
      have d1 := Wd.bt_lo s (4 * n + 1)
      have d2 := Wd.bt_lo s (4 * n + 2)
      have d3 := Wd.bt_lo s (4 * n + 3)
      have e0 := Wd.bt_hi s (4 * n)
      have e1 := Wd.bt_hi s (4 * n + 1)
      have e2 := Wd.bt_hi s (4 * n + 2)
      have e3 := Wd.bt_hi s (4 * n + 3)
      generalize Wd.bt s (4 * n) = b0 at *
      generalize Wd.bt s (4 * n + 1) = b1 at *
      generalize Wd.bt s (4 * n + 2) = b2 at *
      generalize Wd.bt s (4 * n + 3) = b3 at *
      have u0 : IntKind.u32.wrap b0 = b0 := by rw [IntKind.wrap_u32']; omega
      have u1 : IntKind.u32.wrap b1 = b1 := by rw [IntKind.wrap_u32']; omega
      have u2 : IntKind.u32.wrap b2 = b2 := by rw [IntKind.wrap_u32']; omega
      have u3 : IntKind.u32.wrap b3 = b3 := by rw [IntKind.wrap_u32']; omega
      have u4 : IntKind.u32.wrap (b0 * 16777216) = b0 * 16777216 := by rw [IntKind.wrap_u32']; omega
      have u5 : IntKind.u32.wrap (b1 * 65536) = b1 * 65536 := by rw [IntKind.wrap_u32']; omega
      have u6 : IntKind.u32.wrap (b2 * 256) = b2 * 256 := by rw [IntKind.wrap_u32']; omega
      have hn64 : (n : Int) < 64 := by omega
      obtain ⟨w2, hw2⟩ : ∃ w2, wr.drew = w2 := ⟨_, rfl⟩
      have g1 : w2.rowIs w.heap.size 58 64 (Sc.R s n 0) := by rw [← hw2]; exact hr
      have g2 : Below w.heap.size w w2 := by rw [← hw2]; exact hB.drew
      have g3 := g1.cell (i := n) (by omega)
      have g4 := g1.frozen n
      go_wp2_with fail
      refine region_tail 32 (by kernel_rfl) (by kernel_rfl) w2 hw2 ?_
      clear hw2 hr hB
      simp only [List.take_succ_cons, List.take_zero, List.drop_succ_cons, List.drop_zero]
      repeat still_step
      refine wpStill_nil ?_
      go_wp2
      go_roundw
      case rel =>
        refine ⟨n + 1, by omega, by go_num, ?_, g2.setCell (Nat.le_refl _) _⟩
        rw [HO.out, ← Wd.W_lo (Wd.word s) n hlt]
        exact (g1.set n _).congr (fun i hi => step_ s n i)
      case measure => simp [intOf]; omega
    · have hn16 : n = 16 := by omega
      rw [hn16] at hr
      clear hn16
      go_wp2
      go_loopw [7] (fun i wr => ∃ n : Nat, 16 ≤ n ∧ n ≤ 64 ∧ i = .int .i64 n ∧ wr.rowIs w.heap.size 58 64 (Sc.R s n 0) ∧ Below w.heap.size w wr) (fun i _ => 64 - (intOf i).toNat)
      case atStart => exact ⟨16, by omega, by omega, rfl, hr, hB⟩
      case round =>
        clear hr hB
        obtain ⟨n, hn16, hn, rfl, hr, hB⟩ := hrel
        by_cases hlt : n < 64
        · have h16 : ¬ n < 16 := by omega
          have v1 := hr.cell (i := n - 15) (by omega)
          have v2 := hr.cell (i := n - 2) (by omega)
          have e1 : Sc.R s n 0 (n - 15) = .int .u32 (Wd.W (Wd.word s) (n - 15)) := by unfold Sc.R; rw [if_pos (by omega)]
          have e2 : Sc.R s n 0 (n - 2) = .int .u32 (Wd.W (Wd.word s) (n - 2)) := by unfold Sc.R; rw [if_pos (by omega)]
          have e3 : Sc.R s n 0 (n - 16) = .int .u32 (Wd.W (Wd.word s) (n - 16)) := by unfold Sc.R; rw [if_pos (by omega)]
          have e4 : Sc.R s n 0 (n - 7) = .int .u32 (Wd.W (Wd.word s) (n - 7)) := by unfold Sc.R; rw [if_pos (by omega)]
          have HN := Lib.hid (Wd.W_hi (Wd.word s) n h16)
          obtain ⟨w2, hw2⟩ : ∃ w2, wr.drew = w2 := ⟨_, rfl⟩
          have g1 : w2.rowIs w.heap.size 58 64 (Sc.R s n 0) := by rw [← hw2]; exact hr
          have g3 : Below w.heap.size w w2 := by rw [← hw2]; exact hB.drew
          have g4 := g1.cell (i := n - 16) (by omega)
          have g5 := g1.cell (i := n - 7) (by omega)
          have g6 := g1.cell (i := n) (by omega)
          have g7 := g1.frozen n
          rw [e1] at v1
          rw [e2] at v2
          rw [e3] at g4
          rw [e4] at g5
          clear e1 e2 e3 e4
          generalize Wd.W (Wd.word s) (n - 15) = wa at v1 HN
          generalize Wd.W (Wd.word s) (n - 2) = wb at v2 HN
          generalize Wd.W (Wd.word s) (n - 16) = wc at g4 HN
          generalize Wd.W (Wd.word s) (n - 7) = wd at g5 HN
          have i3 : IntKind.i64.wrap ((n : Int) - 16) = (n : Int) - 16 := IntWalk.i64_in _ (by omega)
          have i4 : IntKind.i64.wrap ((n : Int) - 7) = (n : Int) - 7 := IntWalk.i64_in _ (by omega)
          have j3 : 0 ≤ (n : Int) - 16 := by omega
          have j4 : 0 ≤ (n : Int) - 7 := by omega
          have m3 : 16 ≤ (n : Int) := by omega
          have m4 : 7 ≤ (n : Int) := by omega
          have l3 : (n : Int) - 16 < 64 := by omega
          have l4 : (n : Int) - 7 < 64 := by omega
          have k3 : ((n : Int) - 16).toNat = n - 16 := by omega
          have k4 : ((n : Int) - 7).toNat = n - 7 := by omega
          have hn64 : (n : Int) < 64 := by omega
          go_wp2_with fail
          refine region_tail 32 (by kernel_rfl) (by kernel_rfl) w2 hw2 ?_
          clear hw2 hr hB v1 v2
          simp only [List.take_succ_cons, List.take_zero, List.drop_succ_cons, List.drop_zero]
          repeat still_step
          still_call (still_of (Rt.turn_ _ _ _ (by omega) (by omega)))
          repeat still_step
          still_call (still_of (Rt.turn_ _ _ _ (by omega) (by omega)))
          repeat still_step
          still_call (still_of (Rt.turn_ _ _ _ (by omega) (by omega)))
          repeat still_step
          still_call (still_of (Rt.turn_ _ _ _ (by omega) (by omega)))
          repeat still_step
          refine wpStill_nil ?_
          go_wp2
          go_roundw
          case rel =>
            refine ⟨n + 1, by omega, by omega, by go_num, ?_, g3.setCell (Nat.le_refl _) _⟩
            refine (g1.set n _).congr (fun i hi => Eq.trans ?_ (step_ s n i))
            rw [HN.out]
            rfl
          case measure => simp [intOf]; omega
        · have hn64 : n = 64 := by omega
          rw [hn64] at hr
          clear hn64
          have hW : wr.rowIs w.heap.size 58 64 (fun j => .int .u32 (Wd.W (Wd.word s) j)) := hr.congr (fun i hi => by unfold Sc.R; rw [if_pos hi])
          clear hr
          have hcs : ∀ j, j < 8 → wr.cell? ⟨S, j, none⟩ = some (.int .i64 (st.at j)) := fun j hj => (hB.cell (p := ⟨S, j, none⟩) hS).trans (HC.out j hj)
          obtain ⟨a, b, c, d, e, f, g, h⟩ := st
          have c0 : wr.cell? ⟨S, 0, none⟩ = some (.int .i64 a) := hcs 0 (by omega)
          have c1 : wr.cell? ⟨S, 1, none⟩ = some (.int .i64 b) := hcs 1 (by omega)
          have c2 : wr.cell? ⟨S, 2, none⟩ = some (.int .i64 c) := hcs 2 (by omega)
          have c3 : wr.cell? ⟨S, 3, none⟩ = some (.int .i64 d) := hcs 3 (by omega)
          have c4 : wr.cell? ⟨S, 4, none⟩ = some (.int .i64 e) := hcs 4 (by omega)
          have c5 : wr.cell? ⟨S, 5, none⟩ = some (.int .i64 f) := hcs 5 (by omega)
          have c6 : wr.cell? ⟨S, 6, none⟩ = some (.int .i64 g) := hcs 6 (by omega)
          have c7 : wr.cell? ⟨S, 7, none⟩ = some (.int .i64 h) := hcs 7 (by omega)
          clear hcs
          have q0 : 0 ≤ a ∧ a < 4294967296 := HST.out 0 (by omega)
          have q1 : 0 ≤ b ∧ b < 4294967296 := HST.out 1 (by omega)
          have q2 : 0 ≤ c ∧ c < 4294967296 := HST.out 2 (by omega)
          have q3 : 0 ≤ d ∧ d < 4294967296 := HST.out 3 (by omega)
          have q4 : 0 ≤ e ∧ e < 4294967296 := HST.out 4 (by omega)
          have q5 : 0 ≤ f ∧ f < 4294967296 := HST.out 5 (by omega)
          have q6 : 0 ≤ g ∧ g < 4294967296 := HST.out 6 (by omega)
          have q7 : 0 ≤ h ∧ h < 4294967296 := HST.out 7 (by omega)
          have u0 : IntKind.u32.wrap a = a := by rw [IntKind.wrap_u32']; omega
          have u1 : IntKind.u32.wrap b = b := by rw [IntKind.wrap_u32']; omega
          have u2 : IntKind.u32.wrap c = c := by rw [IntKind.wrap_u32']; omega
          have u3 : IntKind.u32.wrap d = d := by rw [IntKind.wrap_u32']; omega
          have u4 : IntKind.u32.wrap e = e := by rw [IntKind.wrap_u32']; omega
          have u5 : IntKind.u32.wrap f = f := by rw [IntKind.wrap_u32']; omega
          have u6 : IntKind.u32.wrap g = g := by rw [IntKind.wrap_u32']; omega
          have u7 : IntKind.u32.wrap h = h := by rw [IntKind.wrap_u32']; omega
          clear q0 q1 q2 q3 q4 q5 q6 q7
          go_wp2
          go_quiet (fail)
          obtain ⟨w2, hw2⟩ : ∃ w2, wr.drewN nq = w2 := ⟨_, rfl⟩
          rw [hw2]
          replace c4 : w2.cell? ⟨S, 4, none⟩ = some (.int .i64 e) := by rw [← hw2]; exact c4
          replace c5 : w2.cell? ⟨S, 5, none⟩ = some (.int .i64 f) := by rw [← hw2]; exact c5
          replace c6 : w2.cell? ⟨S, 6, none⟩ = some (.int .i64 g) := by rw [← hw2]; exact c6
          replace c7 : w2.cell? ⟨S, 7, none⟩ = some (.int .i64 h) := by rw [← hw2]; exact c7
          replace hW : w2.rowIs w.heap.size 58 64 (fun j => .int .u32 (Wd.W (Wd.word s) j)) := by rw [← hw2]; exact hW
          replace hB : Below w.heap.size w w2 := by rw [← hw2]; exact below_drewN hB _
          clear hw2 c0 c1 c2 c3
          go_wp2_with fail
          go_quiet (fail)
          obtain ⟨w3, hw3⟩ : ∃ w3, w2.drewN nq = w3 := ⟨_, rfl⟩
          rw [hw3]
          replace hW : w3.rowIs w.heap.size 58 64 (fun j => .int .u32 (Wd.W (Wd.word s) j)) := by rw [← hw3]; exact hW
          replace hB : Below w.heap.size w w3 := by rw [← hw3]; exact below_drewN hB _
          clear hw3 c4 c5 c6 c7
          go_wp2_with fail
          refine (Bk.keys_ _).mono ?_
          rintro e' w4 ⟨rfl, hK, hb4⟩
          replace hW : w4.rowIs w.heap.size 58 64 (fun j => .int .u32 (Wd.W (Wd.word s) j)) := hW.of_block (hb4.block _ hW.lt)
          have hkb : w.heap.size ≤ w3.heap.size := hB.size
          replace hB : Below w.heap.size w w4 := hB.trans (hb4.mono hB.size)
          clear hb4
          generalize w3.heap.size = kb at *
          go_wp2_with fail
          go_loopw [10, 11, 12, 13, 14, 15, 16, 17, 19] (fun x10 x11 x12 x13 x14 x15 x16 x17 x19 wr => ∃ (n : Nat) (r : Wd.St), n ≤ 64 ∧ x19 = .int .i64 (n : Int) ∧ r = Wd.rounds Pd.K (Wd.W (Wd.word s)) ⟨a, b, c, d, e, f, g, h⟩ n ∧
              x10 = .int .u32 r.a ∧ x11 = .int .u32 r.b ∧ x12 = .int .u32 r.c ∧ x13 = .int .u32 r.d ∧ x14 = .int .u32 r.e ∧ x15 = .int .u32 r.f ∧ x16 = .int .u32 r.g ∧ x17 = .int .u32 r.h ∧
              wr.rowIs w.heap.size 58 64 (fun j => .int .u32 (Wd.W (Wd.word s) j)) ∧ wr.rowIs kb 58 64 (fun j => .int .u32 (Pd.K j)) ∧ Below w.heap.size w wr)
            (fun _ _ _ _ _ _ _ _ i _ => 64 - (intOf i).toNat)
          case atStart => exact ⟨0, _, Nat.zero_le _, rfl, rfl, rfl, rfl, rfl, rfl, rfl, rfl, rfl, rfl, hW, hK, hB⟩
          case round =>
            clear hW hK hB
            obtain ⟨n, ⟨a1, b1, c1, d1, e1, f1, g1, h1⟩, hn, rfl, hr, rfl, rfl, rfl, rfl, rfl, rfl, rfl, rfl, hW, hK, hB⟩ := hrel
            by_cases hlt : n < 64
            · have v1 := hW.cell hlt
              have v2 := hK.cell hlt
              have hR : Wd.rounds Pd.K (Wd.W (Wd.word s)) ⟨a, b, c, d, e, f, g, h⟩ (n + 1) = Wd.rnd (Wd.rounds Pd.K (Wd.W (Wd.word s)) ⟨a, b, c, d, e, f, g, h⟩ n) (Pd.K n) (Wd.W (Wd.word s) n) := rfl
              rw [← hr] at hR
              generalize Wd.W (Wd.word s) n = wn at v1 hR
              generalize Pd.K n = kn at v2 hR
              have HR := Lib.hid hR
              clear hR hr
              have hsg : IntKind.u32.signed = false := rfl
              have hn64 : (n : Int) < 64 := by omega
              go_wp2_with fail
              go_quiet ((go_at_call 40; exact quiet_left (Rt.turn_ _ _ _ (by omega) (by omega))))
              obtain ⟨w5, hw5⟩ : ∃ w5, wr.drewN nq = w5 := ⟨_, rfl⟩
              rw [hw5]
              replace hW : w5.rowIs w.heap.size 58 64 (fun j => .int .u32 (Wd.W (Wd.word s) j)) := by rw [← hw5]; exact hW
              replace hK : w5.rowIs kb 58 64 (fun j => .int .u32 (Pd.K j)) := by rw [← hw5]; exact hK
              replace hB : Below w.heap.size w w5 := by rw [← hw5]; exact below_drewN hB _
              clear hw5 v1 v2
              go_wp2_with (go_at_call 40; refine (Rt.turn_ _ _ _ (by omega) (by omega)).mono ?_; rintro e' w' ⟨rfl, rfl⟩)
              go_roundw
              case rel =>
                refine ⟨n + 1, Wd.rnd ⟨a1, b1, c1, d1, e1, f1, g1, h1⟩ kn wn, by omega, by go_num, HR.out.symm, ?_, rfl, rfl, rfl, ?_, rfl, rfl, rfl, hW, hK, hB⟩
                · exact congrArg (Value.int .u32) (mod2 _ _)
                · first
                  | exact congrArg (Value.int .u32) (mod1 _ _)
                  | rfl
              case measure => simp [intOf]; omega
            · have hn64 : n = 64 := by omega
              rw [hn64] at hr
              clear hn64
              have HR := Lib.hid hr
              clear hr
              have HB : Hid (Wd.blk Pd.K ⟨a, b, c, d, e, f, g, h⟩ s = Wd.plus ⟨a, b, c, d, e, f, g, h⟩ ⟨a1, b1, c1, d1, e1, f1, g1, h1⟩) := Lib.hid (by rw [HR.out]; rfl)
              obtain ⟨i0, hi, hz0, hz1, hz2⟩ := info_parts info_i64
              go_wp2_with fail
              have hvc : ∀ j, j < 8 → ((wr.alloc (.cells (Tk.vs ⟨a1, b1, c1, d1, e1, f1, g1, h1⟩) 58)).alloc (.cells #[] 2)).cell? ⟨wr.heap.size, j, none⟩ = some (.int .u32 (Wd.St.at ⟨a1, b1, c1, d1, e1, f1, g1, h1⟩ j)) := fun j hj =>
                (cell_of_row _ wr.heap.size j (Tk.vs ⟨a1, b1, c1, d1, e1, f1, g1, h1⟩) 58 (0, 0) (heap_alloc2_old wr _ _)).trans (Tk.vs_at _ j hj)
              have hsc : ∀ j, j < 8 → ((wr.alloc (.cells (Tk.vs ⟨a1, b1, c1, d1, e1, f1, g1, h1⟩) 58)).alloc (.cells #[] 2)).cell? ⟨S, j, none⟩ = some (.int .i64 (Wd.St.at ⟨a, b, c, d, e, f, g, h⟩ j)) := fun j hj =>
                (((hB.alloc hB.size _).alloc (by have := hB.size; simp; omega) _).cell (p := ⟨S, j, none⟩) hS).trans (HC.out j hj)
              have hown : ((wr.alloc (.cells (Tk.vs ⟨a1, b1, c1, d1, e1, f1, g1, h1⟩) 58)).alloc (.cells #[] 2)).ownsRow (wr.heap.size + 1) 2 1 (.slice (some ⟨wr.heap.size + 1, 0, none⟩) 0 0) 0 [] := by
                have := World.ownsRow_made (base := wr.heap.size + 1) (e := 2) (size := 1) (wr.alloc (.cells (Tk.vs ⟨a1, b1, c1, d1, e1, f1, g1, h1⟩) 58)) #[] 0 (by simp) (by simp [maxLen]) rfl
                rw [show (wr.alloc (.cells (Tk.vs ⟨a1, b1, c1, d1, e1, f1, g1, h1⟩) 58)).heap.size = wr.heap.size + 1 from by simp] at this
                exact this
              have hZ : Below w.heap.size w ((wr.alloc (.cells (Tk.vs ⟨a1, b1, c1, d1, e1, f1, g1, h1⟩) 58)).alloc (.cells #[] 2)) := (hB.alloc hB.size _).alloc (by have := hB.size; simp; omega) _
              have hzs : wr.heap.size + 1 < ((wr.alloc (.cells (Tk.vs ⟨a1, b1, c1, d1, e1, f1, g1, h1⟩) 58)).alloc (.cells #[] 2)).heap.size := by simp
              have hwv : w.heap.size ≤ wr.heap.size := hB.size
              change Code.wp _ _ _ _ ((wr.alloc (.cells (Tk.vs ⟨a1, b1, c1, d1, e1, f1, g1, h1⟩) 58)).alloc (.cells #[] 2))
              generalize (wr.alloc (.cells (Tk.vs ⟨a1, b1, c1, d1, e1, f1, g1, h1⟩) 58)).alloc (.cells #[] 2) = wZ at *
              generalize wr.heap.size = vb at *
              have HVC := Lib.hid hvc
              have HSC := Lib.hid hsc
              clear hvc hsc hW hK hB
              generalize hv : (⟨a1, b1, c1, d1, e1, f1, g1, h1⟩ : Wd.St) = v at *
              generalize hst : (⟨a, b, c, d, e, f, g, h⟩ : Wd.St) = st at *
              have HV := Lib.hid hv
              have HS2 := Lib.hid hst
              clear hv hst
              go_loopw [23, 24] (fun x i wr => ∃ (n g' cap' : Nat), n ≤ 8 ∧ i = .int .i64 (n : Int) ∧ x = .slice (some ⟨g', 0, none⟩) n cap' ∧
                  wr.ownsRow (vb + 1) 2 1 (.slice (some ⟨g', 0, none⟩) n cap') n ((List.range n).map fun j => Value.int .i64 ((Wd.plus st v).at j)) ∧ Below (vb + 1) wZ wr)
                (fun _ i _ => 8 - (intOf i).toNat)
              case atStart => exact ⟨0, vb + 1, 0, by omega, rfl, rfl, hown, Below.refl _ _⟩
              case round =>
                clear hown
                obtain ⟨n, g', cap', hn, rfl, rfl, hown, hB⟩ := hrel
                by_cases hl8 : n < 8
                · have x1 : wr.cell? ⟨S, n, none⟩ = some (.int .i64 (st.at n)) := (hB.cell (p := ⟨S, n, none⟩) (show S < vb + 1 by omega)).trans (HSC.out n hl8)
                  have x2 : wr.cell? ⟨vb, n, none⟩ = some (.int .u32 (v.at n)) := (hB.cell (p := ⟨vb, n, none⟩) (show vb < vb + 1 by omega)).trans (HVC.out n hl8)
                  have hsg : IntKind.u32.signed = false := rfl
                  have b1 := HST.out n hl8
                  have HP := Lib.hid (Wd.plus_at st v n hl8)
                  generalize st.at n = x at x1 b1 HP
                  generalize v.at n = y at x2 HP
                  have t1 : IntKind.u32.wrap x = x := by rw [IntKind.wrap_u32']; omega
                  have t2 : IntKind.u32.wrap (x + y) = (x + y) % 4294967296 := IntKind.wrap_u32' _
                  have t3 : IntKind.i64.wrap ((x + y) % 4294967296) = (x + y) % 4294967296 := IntWalk.i64_in _ (by omega)
                  have hn64 : (n : Int) < 8 := by omega
                  have hge := ownsRow_ge hown
                  have hag1 : (Value.slice (some ⟨g', 0, none⟩) n cap').ownBlock ≠ some S := by simp [Value.ownBlock]; omega
                  have hag2 : (Value.slice (some ⟨g', 0, none⟩) n cap').ownBlock ≠ some vb := by simp [Value.ownBlock]; omega
                  have hls : S < wr.heap.size := World.block_lt_of_cell? wr _ x1
                  have hlv : vb < wr.heap.size := World.block_lt_of_cell? wr _ x2
                  have hn0 : (0 : Int) ≤ (n : Int) := by omega
                  have k3 : n + 1 ≤ maxLen := by simp only [maxLen]; omega
                  have k4 : (n + 1) * 8 ≤ 140737488355328 := by omega
                  go_wp2_with fail
                  go_region_held3 (fun w' => w'.cell? ⟨S, n, none⟩ = some (.int .i64 x) ∧ w'.cell? ⟨vb, n, none⟩ = some (.int .u32 y))
                    (first
                      | go_keep
                      | (go_split_ands
                         refine ⟨?_, ?_⟩
                         · (rw [hgrow.cell_far _ (by simp; omega) (Ne.symm hag1)]; assumption)
                         · (rw [hgrow.cell_far _ (by simp; omega) (Ne.symm hag2)]; assumption)))
                    ((refine step_append_lies _ (by rfl) _ _ _ (by rfl) (vb + 1) 2 i0 _ 1 8 Tryz.underlying42 hi hz0 hz1 hz2 rfl (by omega) (.slice (some ⟨g', 0, none⟩) n cap') n _ (by rfl) ((hown.alloc _).drew)
                        ⟨wr.heap.size, 0, none⟩ 1 1 [.int .i64 ((x + y) % 4294967296)] (by rfl) (by rfl) (one_new wr _ _) (one_cell _ _)
                        (by omega) k3 k4 (by simp; omega) (wr.heap.size + 1) (by simp) ?_; intro gg cap2 w6 hown' hgrow hat hlt6))
                  have hb' : Below (vb + 1) wZ w6 := ((hB.alloc (by omega) _).drew).grown hgrow (by simp; omega) (fun i hi => by
                    simp [Value.ownBlock] at hi
                    omega)
                  go_wp2
                  go_roundw
                  case rel =>
                    refine ⟨n + 1, gg, cap2, by omega, by go_num, rfl, ?_, hb'⟩
                    rw [List.range_succ, List.map_append, List.map_singleton, HP.out]
                    exact hown'
                  case measure => simp [intOf]; omega
                · have hn8 : n = 8 := by omega
                  rw [hn8] at hown
                  go_wp2
                  go_ret
                  rw [← hn8] at hown
                  refine ⟨g', cap', by rw [← hn8]; rfl, fun j hj => ?_, ?_, hZ.trans (hB.mono (by omega))⟩
                  · rw [hown.cellAt j (by omega), HS2.out, HB.out]
                    simp [show j < n by omega]
                  · have := ownsRow_ge hown
                    omega
end Bl
end Go.Proofs.YtlcildmhcohpbaaGreatDoor
