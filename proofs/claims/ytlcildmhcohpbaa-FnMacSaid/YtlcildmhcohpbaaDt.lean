/-
  The draw of passwords.
-/
import Derived.Test.YtlcildmhcohpbaaDm
import Derived.Deep.RegionWith
namespace Go.Proofs.Ytlcildmhcohpbaa
open Go.RowKit
set_option linter.unusedSimpArgs false
set_option linter.unusedVariables false
namespace Dr
theorem Rd.drew {w : World} {p : Nat} (h : Rd w p) : Rd w.drew p := h.keep (fun g hg => rfl)
theorem Rd.drewN {w : World} {p : Nat} (h : Rd w p) (n : Nat) : Rd (w.drewN n) p := h.keep (fun g hg => rfl)
abbrev row5 (x : Int) : Array Value := #[.int .i64 0, .int .i64 1, .int .i64 100, .int .i64 101, .int .i64 x]
theorem row5_at (x : Int) (i : Nat) (hi : i < 5) : ∃ y : Int, (row5 x)[i]? = some (.int .i64 y) := by
  match i, hi with
  | 0, _ => exact ⟨_, rfl⟩
  | 1, _ => exact ⟨_, rfl⟩
  | 2, _ => exact ⟨_, rfl⟩
  | 3, _ => exact ⟨_, rfl⟩
  | 4, _ => exact ⟨_, rfl⟩
theorem pick_before (x v : Int) (w6 : World) (T : TypeId) (h0 : 0 ≤ v) (h1 : v < 5 ∨ v < 1) : ∃ (i : Nat) (y : Int), v = (i : Int) ∧ i < 5 ∧ (w6.alloc (.cells (row5 x) T)).cell? ⟨w6.heap.size, i, none⟩ = some (.int .i64 y) := by
  obtain ⟨i, rfl⟩ := Int.eq_ofNat_of_zero_le h0
  have hi : i < 5 := by omega
  obtain ⟨y, hy⟩ := row5_at x i hi
  exact ⟨i, y, rfl, hi, (cell_of_row _ w6.heap.size i (row5 x) T (0, 0) (heap_alloc_new w6 _)).trans hy⟩
theorem pick_after (x v : Int) (w5 w6 : World) (p : Nat) (T : TypeId) (hp : p < w5.heap.size) (hG : (w5.alloc (.cells (row5 x) T)).grownBy w6 (some p)) (h0 : 0 ≤ v) (h1 : v < 5 ∨ v < 1) :
    ∃ (i : Nat) (y : Int), v = (i : Int) ∧ i < 5 ∧ w6.cell? ⟨w5.heap.size, i, none⟩ = some (.int .i64 y) := by
  obtain ⟨i, y, rfl, hi, hc⟩ := pick_before x v w5 T h0 h1
  refine ⟨i, y, rfl, hi, (World.cell?_of_block (a := ⟨w5.heap.size, i, none⟩) (hG.block w5.heap.size (by simp) (fun e => ?_))).trans hc⟩
  injection e
  omega
set_option maxHeartbeats 4000000 in
set_option maxRecDepth 100000 in
theorem stretch_ (w : World) (ao : Option Addr) (n cap : Nat) (hC : Code w w.heap.size ao n) :
    Calls Try.prog 22 #[.slice ao n cap] w fun e w' => ∃ (s : ByteArray) (k : Int), e = .returned (.tuple #[.string s, .int .i64 k]) ∧ s.size ≤ 200 ∧ Below w.heap.size w w' := by
  go_enter Try.func22, Try.ntmps22
  go_wp2_with (go_at_call 31; refine (source_ w ao n cap hC).mono ?_; rintro e w1 ⟨p, rfl, hp, hR, hB⟩)
  go_wp2_with (go_at_call 33; refine (n_ _ _ _ (by decide) hR).mono ?_; rintro e w2 ⟨v, rfl, h0, h1, hR2, hG⟩)
  have hB2 := to_below hB hp hG
  obtain ⟨m, rfl⟩ := Int.eq_ofNat_of_zero_le h0
  have hm : m ≤ 1000 := by omega
  have hm2 : m ≤ 200 := by omega
  go_wp2_with (go_at_call 32; refine (bytes_ _ _ m hm hR2).mono ?_; rintro e w3 ⟨s, rfl, hs, hR3, hG3⟩)
  have hB3 := to_below hB2 hp hG3
  clear h0 h1 hR hR2 hG hG3 hB hB2
  go_wp2_with (go_at_call 34; refine (one_ _ _ _ (by decide) hR3).mono ?_; rintro e w4 ⟨b, rfl, hR4, hG4⟩)
  · have hB4 := to_below hB3 hp hG4
    clear hR3 hG4 hB3
    have hs2 : s.size ≤ 200 := by omega
    clear hs
    go_region_with (first
      | (go_at_call 35; refine (edge_ _ _ hR4.drew).mono ?_; rintro e w5 ⟨x, rfl, hR5, hG5⟩; have hB5 := to_below hB4.drew hp hG5; have hp5 := hR5.lt)
      | (go_at_call 33; refine (n_ _ _ _ ?hle ?hrd).mono ?_; (case hle => decide); (case hrd => (first | exact hR5 | exact hR5.alloc _)); rintro e w6 ⟨v, rfl, h0, h1, hR6, hG6⟩;
          first
          | (obtain ⟨i, y, rfl, hi, hc⟩ := pick_after x v w5 w6 p _ hp5 hG6 h0 h1; have hB6 := to_below (hB5.alloc hB5.size _) hp hG6)
          | (obtain ⟨i, y, rfl, hi, hc⟩ := pick_before x v w6 2 h0 h1; have hB6 := to_below hB5 hp hG6)))
    · clear hc
      go_wp2_with fail
      go_ret2
      exact ⟨s, _, rfl, hs2, hB6⟩
    · clear hc
      go_wp2_with fail
      go_ret2
      exact ⟨s, _, rfl, hs2, hB6.alloc hB6.size _⟩
  · have hB4 := to_below hB3 hp hG4
    clear hR3 hG4 hB3
    have hs2 : s.size ≤ 200 := by omega
    clear hs
    go_wp2_with (go_at_call 33; refine (n_ _ _ _ (by decide) hR4).mono ?_; rintro e w5 ⟨v, rfl, h0, h1, hR5, hG5⟩)
    have hB5 := to_below hB4 hp hG5
    go_ret2
    exact ⟨s, _, rfl, hs2, hB5⟩
end Dr
end Go.Proofs.Ytlcildmhcohpbaa
