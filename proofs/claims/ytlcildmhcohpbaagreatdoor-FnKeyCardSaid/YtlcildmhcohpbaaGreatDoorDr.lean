/-
  The reference's draws: the source of numbers that a code gives.
-/
import Derived.Test.YtlcildmhcohpbaaGreatDoorBase
import Derived.Test.YtlcildmhcohpbaaGreatDoorProg
import Derived.WalkKit
import Derived.WalkSpells
import Derived.WalkLawsBesides
import Derived.BigQuiet
import Derived.OpenShut
import Derived.OwnWalk
import Derived.Laws.Bits64
import Derived.Laws.Rows
import Derived.Deep.LoopGhost
namespace Go.Proofs.YtlcildmhcohpbaaGreatDoor
open Go.RowKit
set_option linter.unusedSimpArgs false
set_option linter.unusedVariables false
namespace Dr
/-- a code that can be read: n bytes, in blocks below B -/
structure Code (w : World) (B : Nat) (ao : Option Addr) (n : Nat) : Prop where
  le : n ≤ 1048576
  at_ : ∀ i, i < n → ∃ (g off : Nat) (x : Int), ao = some ⟨g, off, none⟩ ∧ g < B ∧ 0 ≤ x ∧ x < 256 ∧ w.cell? ⟨g, off + i, none⟩ = some (.int .u8 x)
theorem Code.keep {w w' : World} {B : Nat} {ao : Option Addr} {n : Nat} (h : Code w B ao n) (hb : ∀ g, g < B → w'.heap[g]? = w.heap[g]?) : Code w' B ao n :=
  ⟨h.le, fun i hi => by
    obtain ⟨g, off, x, h1, h2, h3, h4, h5⟩ := h.at_ i hi
    exact ⟨g, off, x, h1, h2, h3, h4, (World.cell?_of_block (w := w) (a := ⟨g, off + i, none⟩) (hb g h2)).trans h5⟩⟩
/-- a source at block p -/
structure Src (w : World) (p : Nat) (ao : Option Addr) (n cap : Nat) (k : Nat) (mix left : Int) : Prop where
  blk : w.heap[p]? = some (.cells #[.slice ao n cap, .int .i64 (k : Int), .int .u64 mix, .int .i64 left] 55 (0, 0))
  code : Code w p ao n
  k_le : k ≤ n
  lo : 0 ≤ mix
  hi : mix < 18446744073709551616
/-- whatever it holds -/
def Rd (w : World) (p : Nat) : Prop := ∃ ao n cap k mix left, Src w p ao n cap k mix left
theorem u64_bits (op : BinOp) (x y : Int) : 0 ≤ bits op .u64 x y ∧ bits op .u64 x y < 18446744073709551616 := by
  have h := Go.wf_bits op .u64 x y
  simp [Lit.wf, IntKind.min, IntKind.max, IntKind.signed, IntKind.bits] at h
  omega
section
variable {w : World} {p : Nat} {ao : Option Addr} {n cap k : Nat} {mix left : Int}
theorem Src.lt (h : Src w p ao n cap k mix left) : p < w.heap.size := by
  have := h.blk
  rcases Nat.lt_or_ge p w.heap.size with h1 | h1
  · exact h1
  · rw [Array.getElem?_eq_none h1] at this
    cases this
theorem Src.c0 (h : Src w p ao n cap k mix left) : w.cell? ⟨p, 0, none⟩ = some (.slice ao n cap) := cell_of_row w p 0 _ _ (0, 0) h.blk
theorem Src.c1 (h : Src w p ao n cap k mix left) : w.cell? ⟨p, 1, none⟩ = some (.int .i64 (k : Int)) := cell_of_row w p 1 _ _ (0, 0) h.blk
theorem Src.c2 (h : Src w p ao n cap k mix left) : w.cell? ⟨p, 2, none⟩ = some (.int .u64 mix) := cell_of_row w p 2 _ _ (0, 0) h.blk
theorem Src.c3 (h : Src w p ao n cap k mix left) : w.cell? ⟨p, 3, none⟩ = some (.int .i64 left) := cell_of_row w p 3 _ _ (0, 0) h.blk
theorem Src.z (h : Src w p ao n cap k mix left) (i : Nat) : w.frozen? ⟨p, i, none⟩ = false := frozen_of_row w p i _ _ h.blk
theorem far {w : World} {p i : Nat} (v : Value) (g : Nat) (h : g < p) : (w.setCell ⟨p, i, none⟩ v).heap[g]? = w.heap[g]? := Below.heap_setCell w ⟨p, i, none⟩ v g (by simp; omega)
theorem Src.set1 (h : Src w p ao n cap k mix left) (k' : Nat) (hk : k' ≤ n) : Src (w.setCell ⟨p, 1, none⟩ (.int .i64 (k' : Int))) p ao n cap k' mix left :=
  ⟨heap_setCell_same w p 1 _ _ _ h.blk, h.code.keep (fun g hg => far _ g hg), hk, h.lo, h.hi⟩
theorem Src.set2 (h : Src w p ao n cap k mix left) (m' : Int) (h0 : 0 ≤ m') (h1 : m' < 18446744073709551616) : Src (w.setCell ⟨p, 2, none⟩ (.int .u64 m')) p ao n cap k m' left :=
  ⟨heap_setCell_same w p 2 _ _ _ h.blk, h.code.keep (fun g hg => far _ g hg), h.k_le, h0, h1⟩
theorem Src.set3 (h : Src w p ao n cap k mix left) (l' : Int) : Src (w.setCell ⟨p, 3, none⟩ (.int .i64 l')) p ao n cap k mix l' :=
  ⟨heap_setCell_same w p 3 _ _ _ h.blk, h.code.keep (fun g hg => far _ g hg), h.k_le, h.lo, h.hi⟩
theorem Src.drew (h : Src w p ao n cap k mix left) : Src w.drew p ao n cap k mix left := ⟨h.blk, h.code.keep (fun g hg => rfl), h.k_le, h.lo, h.hi⟩
theorem Src.drewN (h : Src w p ao n cap k mix left) (q : Nat) : Src (w.drewN q) p ao n cap k mix left := ⟨h.blk, h.code.keep (fun g hg => rfl), h.k_le, h.lo, h.hi⟩
end
/-- a source whose mix is known -/
def Sm (w : World) (p : Nat) (mix : Int) : Prop := ∃ ao n cap k left, Src w p ao n cap k mix left
section
variable {w : World} {p : Nat} {mix : Int}
theorem Sm.c2 (h : Sm w p mix) : w.cell? ⟨p, 2, none⟩ = some (.int .u64 mix) := by obtain ⟨_, _, _, _, _, h⟩ := h; exact h.c2
theorem Sm.z (h : Sm w p mix) (i : Nat) : w.frozen? ⟨p, i, none⟩ = false := by obtain ⟨_, _, _, _, _, h⟩ := h; exact h.z i
theorem Sm.drew (h : Sm w p mix) : Sm w.drew p mix := by obtain ⟨_, _, _, _, _, h⟩ := h; exact ⟨_, _, _, _, _, h.drew⟩
theorem Sm.rng (h : Sm w p mix) : 0 ≤ mix ∧ mix < 18446744073709551616 := by obtain ⟨_, _, _, _, _, h⟩ := h; exact ⟨h.lo, h.hi⟩
theorem Sm.set2 (h : Sm w p mix) (m' : Int) (h0 : 0 ≤ m' ∧ m' < 18446744073709551616) : Sm (w.setCell ⟨p, 2, none⟩ (.int .u64 m')) p m' := by obtain ⟨_, _, _, _, _, h⟩ := h; exact ⟨_, _, _, _, _, h.set2 m' h0.1 h0.2⟩
theorem Sm.rd (h : Sm w p mix) : Rd w p := by obtain ⟨_, _, _, _, _, h⟩ := h; exact ⟨_, _, _, _, _, _, h⟩
end
theorem val_rng (y most : Int) (h1 : 1 < most) (h2 : most ≤ 9223372036854775807) : 0 ≤ wrap64 ((IntKind.u64.wrap y).tmod most) ∧ wrap64 ((IntKind.u64.wrap y).tmod most) < most := by
  have h : 0 ≤ IntKind.u64.wrap y := by rw [IntKind.wrap_u64]; omega
  rw [Int.tmod_eq_emod_of_nonneg h]
  have a := Int.emod_nonneg (IntKind.u64.wrap y) (show most ≠ 0 by omega)
  have b := Int.emod_lt_of_pos (IntKind.u64.wrap y) (show 0 < most by omega)
  have e : wrap64 (IntKind.u64.wrap y % most) = IntKind.u64.wrap y % most := by unfold wrap64; omega
  rw [e]
  omega
set_option maxHeartbeats 4000000 in
set_option maxRecDepth 100000 in
theorem n_ (w : World) (p : Nat) (most : Int) (h2 : most ≤ 9223372036854775807) (hR : Rd w p) :
    Calls Tryz.prog 28 #[.pointer (some ⟨p, 0, none⟩), .int .i64 most] w fun e w' => ∃ v : Int, e = .returned (.int .i64 v) ∧ 0 ≤ v ∧ (v < most ∨ v < 1) ∧ Rd w' p ∧ w.grownBy w' (some p) := by
  obtain ⟨ao, n, cap, k, mix, left, hS⟩ := hR
  by_cases h1 : most ≤ 1
  · go_enter Tryz.func28, Tryz.ntmps28
    go_wp2
    go_ret
    exact ⟨0, rfl, by omega, by omega, ⟨_, _, _, _, _, _, hS⟩, World.grownBy.refl _ _⟩
  · have c0 := hS.c0
    have c1 := hS.c1
    have hn := hS.code.le
    have hk := hS.k_le
    by_cases hlt : k < n
    · go_enter Tryz.func28, Tryz.ntmps28
      go_wp2
      go_quiet (fail)
      have hS1 := hS.drewN nq
      have hG : w.grownBy (w.drewN nq) (some p) := grown_drewN (World.grownBy.refl _ _) nq
      generalize w.drewN nq = w1 at *
      clear c0 c1
      obtain ⟨g, off, x, rfl, hg, hx0, hx1, hcx⟩ := hS1.code.at_ k hlt
      have c0 := hS1.c0
      have c1 := hS1.c1
      have hlI : (k : Int) < n := by omega
      go_wp2
      go_quiet (fail)
      have hS2 := hS1.drewN nq
      have hG2 : w.grownBy (w1.drewN nq) (some p) := grown_drewN hG nq
      generalize w1.drewN nq = w2 at *
      clear c0 c1 hcx
      have c1 := hS2.c1
      have hz1 := hS2.z 1
      go_wp2
      have hS3 := hS2.set1 (k + 1) (by omega)
      have hG3 := grown_set hG2 (p := ⟨p, 1, none⟩) (.inl rfl) (.int .i64 ((k + 1 : Nat) : Int))
      have e : ((k + 1 : Nat) : Int) = (k : Int) + 1 := by omega
      rw [e] at hS3 hG3
      generalize w2.setCell ⟨p, 1, none⟩ (.int .i64 ((k : Int) + 1)) = w3 at *
      have hM3 : Sm w3 p mix := ⟨_, _, _, _, _, hS3⟩
      clear hS3 hS hS1 hS2 c1 hz1 hG hG2 e hlI hk hlt hn
      generalize hmx : mix = mix3 at *
      clear hmx
      have c2 := hM3.c2
      have hz := hM3.z 2
      obtain ⟨v4, hv4⟩ : ∃ v4, w3.drew = v4 := ⟨_, rfl⟩
      have hN : Sm v4 p mix3 := by rw [← hv4]; exact hM3.drew
      have hGN : w.grownBy v4 (some p) := by rw [← hv4]; exact grown_drew hG3
      have c2' := hN.c2
      have hz' := hN.z 2
      have hrg := hN.rng
      refine region_tail 13 (by kernel_rfl) (by kernel_rfl) v4 hv4 ?_
      clear hv4 c2 hz hM3 hG3
      simp only [List.take_succ_cons, List.take_zero, List.drop_succ_cons, List.drop_zero]
      repeat still_step
      refine wpStill_nil ?_
      go_wp2
      have hM4 := hN.set2 _ (u64_bits .xor mix3 (IntKind.u64.wrap (mix3 * 8192)))
      have hG4 := grown_set hGN (p := ⟨p, 2, none⟩) (.inl rfl) (.int .u64 (bits .xor .u64 mix3 (IntKind.u64.wrap (mix3 * 8192))))
      clear c2' hz' hrg hN hGN
      generalize v4.setCell ⟨p, 2, none⟩ (.int .u64 (bits .xor .u64 mix3 (IntKind.u64.wrap (mix3 * 8192)))) = w4 at *
      generalize bits .xor .u64 mix3 (IntKind.u64.wrap (mix3 * 8192)) = mix4 at *
      have c2 := hM4.c2
      have hz := hM4.z 2
      obtain ⟨v5, hv5⟩ : ∃ v5, w4.drew = v5 := ⟨_, rfl⟩
      have hN : Sm v5 p mix4 := by rw [← hv5]; exact hM4.drew
      have hGN : w.grownBy v5 (some p) := by rw [← hv5]; exact grown_drew hG4
      have c2' := hN.c2
      have hz' := hN.z 2
      have hrg := hN.rng
      refine region_tail 13 (by kernel_rfl) (by kernel_rfl) v5 hv5 ?_
      clear hv5 c2 hz hM4 hG4
      simp only [List.take_succ_cons, List.take_zero, List.drop_succ_cons, List.drop_zero]
      repeat still_step
      refine wpStill_nil ?_
      go_wp2
      have hM5 := hN.set2 _ (u64_bits .xor mix4 (mix4 / 128))
      have hG5 := grown_set hGN (p := ⟨p, 2, none⟩) (.inl rfl) (.int .u64 (bits .xor .u64 mix4 (mix4 / 128)))
      clear c2' hz' hrg hN hGN
      generalize v5.setCell ⟨p, 2, none⟩ (.int .u64 (bits .xor .u64 mix4 (mix4 / 128))) = w5 at *
      generalize bits .xor .u64 mix4 (mix4 / 128) = mix5 at *
      have c2 := hM5.c2
      have hz := hM5.z 2
      obtain ⟨v6, hv6⟩ : ∃ v6, w5.drew = v6 := ⟨_, rfl⟩
      have hN : Sm v6 p mix5 := by rw [← hv6]; exact hM5.drew
      have hGN : w.grownBy v6 (some p) := by rw [← hv6]; exact grown_drew hG5
      have c2' := hN.c2
      have hz' := hN.z 2
      have hrg := hN.rng
      refine region_tail 13 (by kernel_rfl) (by kernel_rfl) v6 hv6 ?_
      clear hv6 c2 hz hM5 hG5
      simp only [List.take_succ_cons, List.take_zero, List.drop_succ_cons, List.drop_zero]
      repeat still_step
      refine wpStill_nil ?_
      go_wp2
      have hM6 := hN.set2 _ (u64_bits .xor mix5 (IntKind.u64.wrap (mix5 * 131072)))
      have hG6 := grown_set hGN (p := ⟨p, 2, none⟩) (.inl rfl) (.int .u64 (bits .xor .u64 mix5 (IntKind.u64.wrap (mix5 * 131072))))
      clear c2' hz' hrg hN hGN
      generalize v6.setCell ⟨p, 2, none⟩ (.int .u64 (bits .xor .u64 mix5 (IntKind.u64.wrap (mix5 * 131072)))) = w6 at *
      generalize bits .xor .u64 mix5 (IntKind.u64.wrap (mix5 * 131072)) = mix6 at *
      have c2 := hM6.c2
      have hrg := hM6.rng
      go_wp2
      go_ret
      have hv := val_rng (x + mix6 / 1048576) most (by omega) h2
      exact ⟨_, rfl, hv.1, .inl hv.2, hM6.rd, hG6⟩
    · go_enter Tryz.func28, Tryz.ntmps28
      have hlI : ¬ (k : Int) < n := by omega
      go_wp2
      go_quiet (fail)
      have hM3 : Sm (w.drewN nq) p mix := ⟨_, _, _, _, _, hS.drewN nq⟩
      have hG3 : w.grownBy (w.drewN nq) (some p) := grown_drewN (World.grownBy.refl _ _) nq
      generalize w.drewN nq = w3 at *
      clear c0 c1 hS hlI hk hlt hn
      generalize hmx : mix = mix3 at *
      clear hmx
      go_wp2
      have c2 := hM3.c2
      have hz := hM3.z 2
      obtain ⟨v4, hv4⟩ : ∃ v4, w3.drew = v4 := ⟨_, rfl⟩
      have hN : Sm v4 p mix3 := by rw [← hv4]; exact hM3.drew
      have hGN : w.grownBy v4 (some p) := by rw [← hv4]; exact grown_drew hG3
      have c2' := hN.c2
      have hz' := hN.z 2
      have hrg := hN.rng
      refine region_tail 13 (by kernel_rfl) (by kernel_rfl) v4 hv4 ?_
      clear hv4 c2 hz hM3 hG3
      simp only [List.take_succ_cons, List.take_zero, List.drop_succ_cons, List.drop_zero]
      repeat still_step
      refine wpStill_nil ?_
      go_wp2
      have hM4 := hN.set2 _ (u64_bits .xor mix3 (IntKind.u64.wrap (mix3 * 8192)))
      have hG4 := grown_set hGN (p := ⟨p, 2, none⟩) (.inl rfl) (.int .u64 (bits .xor .u64 mix3 (IntKind.u64.wrap (mix3 * 8192))))
      clear c2' hz' hrg hN hGN
      generalize v4.setCell ⟨p, 2, none⟩ (.int .u64 (bits .xor .u64 mix3 (IntKind.u64.wrap (mix3 * 8192)))) = w4 at *
      generalize bits .xor .u64 mix3 (IntKind.u64.wrap (mix3 * 8192)) = mix4 at *
      have c2 := hM4.c2
      have hz := hM4.z 2
      obtain ⟨v5, hv5⟩ : ∃ v5, w4.drew = v5 := ⟨_, rfl⟩
      have hN : Sm v5 p mix4 := by rw [← hv5]; exact hM4.drew
      have hGN : w.grownBy v5 (some p) := by rw [← hv5]; exact grown_drew hG4
      have c2' := hN.c2
      have hz' := hN.z 2
      have hrg := hN.rng
      refine region_tail 13 (by kernel_rfl) (by kernel_rfl) v5 hv5 ?_
      clear hv5 c2 hz hM4 hG4
      simp only [List.take_succ_cons, List.take_zero, List.drop_succ_cons, List.drop_zero]
      repeat still_step
      refine wpStill_nil ?_
      go_wp2
      have hM5 := hN.set2 _ (u64_bits .xor mix4 (mix4 / 128))
      have hG5 := grown_set hGN (p := ⟨p, 2, none⟩) (.inl rfl) (.int .u64 (bits .xor .u64 mix4 (mix4 / 128)))
      clear c2' hz' hrg hN hGN
      generalize v5.setCell ⟨p, 2, none⟩ (.int .u64 (bits .xor .u64 mix4 (mix4 / 128))) = w5 at *
      generalize bits .xor .u64 mix4 (mix4 / 128) = mix5 at *
      have c2 := hM5.c2
      have hz := hM5.z 2
      obtain ⟨v6, hv6⟩ : ∃ v6, w5.drew = v6 := ⟨_, rfl⟩
      have hN : Sm v6 p mix5 := by rw [← hv6]; exact hM5.drew
      have hGN : w.grownBy v6 (some p) := by rw [← hv6]; exact grown_drew hG5
      have c2' := hN.c2
      have hz' := hN.z 2
      have hrg := hN.rng
      refine region_tail 13 (by kernel_rfl) (by kernel_rfl) v6 hv6 ?_
      clear hv6 c2 hz hM5 hG5
      simp only [List.take_succ_cons, List.take_zero, List.drop_succ_cons, List.drop_zero]
      repeat still_step
      refine wpStill_nil ?_
      go_wp2
      have hM6 := hN.set2 _ (u64_bits .xor mix5 (IntKind.u64.wrap (mix5 * 131072)))
      have hG6 := grown_set hGN (p := ⟨p, 2, none⟩) (.inl rfl) (.int .u64 (bits .xor .u64 mix5 (IntKind.u64.wrap (mix5 * 131072))))
      clear c2' hz' hrg hN hGN
      generalize v6.setCell ⟨p, 2, none⟩ (.int .u64 (bits .xor .u64 mix5 (IntKind.u64.wrap (mix5 * 131072)))) = w6 at *
      generalize bits .xor .u64 mix5 (IntKind.u64.wrap (mix5 * 131072)) = mix6 at *
      have c2 := hM6.c2
      have hrg := hM6.rng
      go_wp2
      go_ret
      have hv := val_rng (mix6 / 1048576) most (by omega) h2
      exact ⟨_, rfl, hv.1, .inl hv.2, hM6.rd, hG6⟩
theorem Rd.keep {w w' : World} {p : Nat} (h : Rd w p) (hb : ∀ g, g ≤ p → w'.heap[g]? = w.heap[g]?) : Rd w' p := by
  obtain ⟨ao, n, cap, k, mix, left, h⟩ := h
  exact ⟨ao, n, cap, k, mix, left, (hb p (Nat.le_refl _)).trans h.blk, h.code.keep (fun g hg => hb g (by omega)), h.k_le, h.lo, h.hi⟩
theorem Rd.lt {w : World} {p : Nat} (h : Rd w p) : p < w.heap.size := by
  obtain ⟨ao, n, cap, k, mix, left, h⟩ := h
  exact h.lt
theorem Rd.alloc {w : World} {p : Nat} (h : Rd w p) (o : Obj) : Rd (w.alloc o) p := h.keep (fun g hg => Below.heap_alloc w o g (by have := h.lt; omega))
theorem Rd.grown {w w' : World} {p : Nat} {row : Option Nat} (h : Rd w p) (hg : w.grownBy w' row) (hr : ∀ g, row = some g → p < g) : Rd w' p :=
  h.keep (fun i hi => hg.block i (by have := h.lt; omega) (fun e => by have := hr i e.symm; omega))
theorem Rd.below {w w' : World} {p B : Nat} (h : Rd w p) (hb : Below B w w') (hB : p < B) : Rd w' p := h.keep (fun i hi => hb.block i (by omega))
set_option maxHeartbeats 2000000 in
theorem one_ (w : World) (p : Nat) (most : Int) (h2 : most ≤ 9223372036854775807) (hR : Rd w p) :
    Calls Tryz.prog 29 #[.pointer (some ⟨p, 0, none⟩), .int .i64 most] w fun e w' => ∃ b : Bool, e = .returned (.bool b) ∧ Rd w' p ∧ w.grownBy w' (some p) := by
  go_enter Tryz.func29, Tryz.ntmps29
  go_wp2_with (go_at_call 28; refine (n_ _ _ _ h2 hR).mono ?_; rintro e w2 ⟨v, rfl, h0, h1, hR2, hG⟩)
  go_ret
  exact ⟨_, rfl, hR2, hG⟩
end Dr
end Go.Proofs.YtlcildmhcohpbaaGreatDoor
