/-
  The program's readJid, where an at-sign is found and the parts are right.
-/
import Derived.Test.YtlcildmhcohpbaaGreatDoorJt
import Derived.Deep.RegionWith
import Derived.Laws.ResultCell
namespace Go.Proofs.YtlcildmhcohpbaaGreatDoor
open Go.RowKit
set_option linter.unusedSimpArgs false
set_option linter.unusedVariables false
namespace Jy
open Do Jb Ja Jr Jt
set_option maxHeartbeats 4000000 in
set_option maxRecDepth 100000 in
theorem readT (c1 c2 : ByteArray → ByteArray → ByteArray) (c3 : ByteArray → ByteArray → Bool) (q2 : Bool) (x : ByteArray)
    (t : ByteArray) (w : World) (hB0 : 2 < w.heap.size) (m : Int) (hm : w.cell? ⟨2, 0, none⟩ = some (.int .i64 m)) (ht : t.size ≤ 2000000) (hf : (c1 t ⟨#[47]⟩).size ≤ 2000000)
    (hcut : ∀ s sep w, s.size ≤ 2000000 → w.cell? ⟨2, 0, none⟩ = some (.int .i64 m) → Calls Tryz.prog 42 #[.string s, .string sep] w fun e w' => e = .returned (.tuple #[.string (c1 s sep), .string (c2 s sep), .bool (c3 s sep)]) ∧ ∃ n, w' = w.drewN n)
    (f a d r : ByteArray) (hfr : c1 t ⟨#[47]⟩ = f) (h3 : c3 f ⟨#[64]⟩ = true) (ha : c1 f ⟨#[64]⟩ = a) (hd : c2 f ⟨#[64]⟩ = d) (hr : c2 t ⟨#[47]⟩ = r)
    (hright : ∀ w, 2 < w.heap.size → w.cell? ⟨2, 0, none⟩ = some (.int .i64 m) → Calls Tryz.prog 43 #[.agg #[.string a, .string d, .string r]] w fun e w' => e = .returned (.bool true) ∧ Below w.heap.size w w')
    (htext : ∀ w, Calls Tryz.prog 44 #[.agg #[.string a, .string d, .string r]] w fun e w' => e = .returned (.string x) ∧ Below w.heap.size w w') (hx : (x.toList == t.toList) = q2)
    : Calls Tryz.prog 35 #[.string t] w fun e w' => e = .returned (.tuple #[.agg #[.string a, .string d, .string r], .bool q2]) ∧ Below w.heap.size w w' := by
  go_enter Tryz.func35, Tryz.ntmps35
  have hb1 : Below w.heap.size w (w.alloc (.cells #[.string ⟨#[]⟩, .string ⟨#[]⟩, .string ⟨#[]⟩] 50)) := (Below.refl _ _).alloc (Nat.le_refl _) _
  have hm1 := (hb1.cell (p := ⟨2, 0, none⟩) hB0).trans hm
  have hcut1 := hcut t ⟨#[47]⟩ (w.alloc (.cells #[.string ⟨#[]⟩, .string ⟨#[]⟩, .string ⟨#[]⟩] 50)) ht hm1
  go_wp2_with fail
  refine hcut1.mono ?_
  rintro e w2 ⟨rfl, n, rfl⟩
  have hB2 := below_drewN hb1 n
  have hm2 : ((w.alloc (.cells #[.string ⟨#[]⟩, .string ⟨#[]⟩, .string ⟨#[]⟩] 50)).drewN n).cell? ⟨2, 0, none⟩ = some (.int .i64 m) := hm1
  have hcut2 := hcut (c1 t ⟨#[47]⟩) ⟨#[64]⟩ _ hf hm2
  rw [hfr] at hcut2
  rw [h3] at hcut2
  go_wp2_with fail
  refine hcut2.mono ?_
  rintro e w3 ⟨rfl, k, hw3⟩
  have hB3 : Below w.heap.size w w3 := by rw [hw3]; exact below_drewN hB2 k
  have hz3 : w3.heap[w.heap.size]? = some (.cells #[.string ⟨#[]⟩, .string ⟨#[]⟩, .string ⟨#[]⟩] 50 (0, 0)) := by rw [hw3]; exact heap_alloc_new w _
  have hm3 : w3.cell? ⟨2, 0, none⟩ = some (.int .i64 m) := (hB3.cell (p := ⟨2, 0, none⟩) hB0).trans hm
  have hl3 : w.heap.size < w3.heap.size := by rw [hw3]; show w.heap.size < (w.alloc _).heap.size; simp
  clear hw3 hcut1 hcut2 hcut hB2 hm2 hb1 hm1
  generalize c3 t ⟨#[47]⟩ = q3 at *
  try rw [ha]
  try rw [hd]
  try rw [hr]
  clear ha hd hfr hr hf h3
  go_wp2_with fail
  have hB4 : Below w.heap.size w (w3.alloc (.cells #[.string a, .string d, .string r] 50)) := hB3.alloc hB3.size _
  have hp4 : (w3.alloc (.cells #[.string a, .string d, .string r] 50)).heap[w3.heap.size]? = some (.cells #[.string a, .string d, .string r] 50 (0, 0)) := heap_alloc_new w3 _
  have hz4 : (w3.alloc (.cells #[.string a, .string d, .string r] 50)).heap[w.heap.size]? = some (.cells #[.string ⟨#[]⟩, .string ⟨#[]⟩, .string ⟨#[]⟩] 50 (0, 0)) := (Below.heap_alloc w3 _ _ hl3).trans hz3
  have hl4 : w3.heap.size < (w3.alloc (.cells #[.string a, .string d, .string r] 50)).heap.size := by simp
  generalize w3.alloc (.cells #[.string a, .string d, .string r] 50) = w4 at *
  generalize w3.heap.size = p at *
  clear hB3 hz3 hm3
  have hm4 : w4.cell? ⟨2, 0, none⟩ = some (.int .i64 m) := (hB4.cell (p := ⟨2, 0, none⟩) hB0).trans hm
  have f0 : w4.cell? ⟨p, 0, none⟩ = some (.string a) := cell_of_row w4 p 0 _ _ (0, 0) hp4
  have f1 : w4.cell? ⟨p, 1, none⟩ = some (.string d) := cell_of_row w4 p 1 _ _ (0, 0) hp4
  have f2 : w4.cell? ⟨p, 2, none⟩ = some (.string r) := cell_of_row w4 p 2 _ _ (0, 0) hp4
  have g0 : w4.cell? ⟨w.heap.size, 0, none⟩ = some (.string ⟨#[]⟩) := cell_of_row w4 w.heap.size 0 _ _ (0, 0) hz4
  have g1 : w4.cell? ⟨w.heap.size, 1, none⟩ = some (.string ⟨#[]⟩) := cell_of_row w4 w.heap.size 1 _ _ (0, 0) hz4
  have g2 : w4.cell? ⟨w.heap.size, 2, none⟩ = some (.string ⟨#[]⟩) := cell_of_row w4 w.heap.size 2 _ _ (0, 0) hz4
  have gz : ∀ i, w4.frozen? ⟨w.heap.size, i, none⟩ = false := fun i => frozen_of_row w4 w.heap.size i _ _ hz4
  clear hp4 hz4
  have hr4 := hright w4.drew (Nat.lt_of_lt_of_le hB0 hB4.size) hm4
  have keep : ∀ (w5 : World) (i : Nat) (v : Value), Below w4.drew.heap.size w4.drew w5 → w4.cell? ⟨p, i, none⟩ = some v → w5.cell? ⟨p, i, none⟩ = some v := fun w5 i v hb h => (hb.cell (p := ⟨p, i, none⟩) hl4).trans h
  have keepz : ∀ (w5 : World) (i : Nat) (v : Value), Below w4.drew.heap.size w4.drew w5 → w4.cell? ⟨w.heap.size, i, none⟩ = some v → w5.cell? ⟨w.heap.size, i, none⟩ = some v := fun w5 i v hb h => (hb.cell (p := ⟨w.heap.size, i, none⟩) (Nat.lt_trans hl3 hl4)).trans h
  have keepf : ∀ (w5 : World) (i : Nat), Below w4.drew.heap.size w4.drew w5 → w5.frozen? ⟨w.heap.size, i, none⟩ = false := fun w5 i hb => (hb.frozen (p := ⟨w.heap.size, i, none⟩) (Nat.lt_trans hl3 hl4)).trans (gz i)
  have z0 := gz 0
  have z1 := gz 1
  have z2 := gz 2
  first | go_region_with (first | (go_at_call 43; refine hr4.mono ?_; rintro e w5 ⟨rfl, hb5⟩; have k0 := keep _ 0 _ hb5 f0; have k1 := keep _ 1 _ hb5 f1; have k2 := keep _ 2 _ hb5 f2; have l0 := keepz _ 0 _ hb5 g0; have l1 := keepz _ 1 _ hb5 g1; have l2 := keepz _ 2 _ hb5 g2; have n0 := keepf _ 0 hb5; have n1 := keepf _ 1 hb5; have n2 := keepf _ 2 hb5; have hB5 := hB4.drew.trans (hb5.mono hB4.size)) | (go_at_call 44; refine (htext _).mono ?_; rintro e w6 ⟨rfl, hb6⟩; have hc6 := hb5.trans (hb6.mono hb5.size); have k0t := keep _ 0 _ hc6 f0; have k1t := keep _ 1 _ hc6 f1; have k2t := keep _ 2 _ hc6 f2; have l0t := keepz _ 0 _ hc6 g0; have l1t := keepz _ 1 _ hc6 g1; have l2t := keepz _ 2 _ hc6 g2; have n0t := keepf _ 0 hc6; have n1t := keepf _ 1 hc6; have n2t := keepf _ 2 hc6; have hB6 := hB4.drew.trans (hc6.mono hB4.size))) | fail
  all_goals (try go_wp2_with fail)
  all_goals (try simp only [Exit.inBlock, Exit.then])
  all_goals refine bodyPost_ret (v := .tuple #[.agg #[.string a, .string d, .string r], .bool q2]) ?_ rfl ⟨rfl, ?_⟩
  all_goals first
    | (rw [results_cell_tmp rfl]; go_simp; done)
    | (rw [hx]; rw [results_cell_tmp rfl]; go_simp; done)
    | (rw [results_cell_tmp rfl]; go_simp; rw [hx]; done)
    | exact ((hB6.setCell (p := ⟨w.heap.size, 0, none⟩) (Nat.le_refl _) _).setCell (p := ⟨w.heap.size, 1, none⟩) (Nat.le_refl _) _).setCell (p := ⟨w.heap.size, 2, none⟩) (Nat.le_refl _) _
    | exact hB6
end Jy
end Go.Proofs.YtlcildmhcohpbaaGreatDoor
