/-
  The reference's draws: edge, bytes, the source itself.
-/
import Derived.Test.YtlcildmhcohpbaaDr
import Derived.Deep.AppendLies
import Derived.Laws.BytesArg
namespace Go.Proofs.Ytlcildmhcohpbaa
open Go.RowKit
set_option linter.unusedSimpArgs false
set_option linter.unusedVariables false
namespace Dr
theorem blk_lt {w : World} {b : Nat} {o : Obj} (h : w.heap[b]? = some o) : b < w.heap.size := by
  rcases Nat.lt_or_ge b w.heap.size with h1 | h1
  · exact h1
  · rw [Array.getElem?_eq_none h1] at h
    cases h
theorem info_u8 : (Try.prog.info? 5).map (fun i => (i.zero, i.size, i.bytes)) = some (some (.int .u8 0), 1, 1) := by kernel_rfl
theorem grown_to {a b c : World} {p : Nat} {row : Option Nat} (h : a.grownBy b (some p)) (k : b.grownBy c row) (hr : ∀ i, row = some i → i = p ∨ a.heap.size ≤ i) : a.grownBy c (some p) :=
  ⟨k.os.trans h.os, k.tape.trans h.tape, k.output.trans h.output, Nat.le_trans h.size k.size, fun i hi hne => (k.block i (Nat.lt_of_lt_of_le hi h.size) (fun e => by
    rcases hr i e.symm with h1 | h1
    · exact hne (by rw [h1])
    · omega)).trans (h.block i hi hne)⟩
theorem edges_at {cs : Array Value} {n : Nat} (hs : cs.size = n) (h : cs.toList.all (fun v => match v with | .int .i64 _ => true | _ => false) = true) (i : Nat) (hi : i < n) : ∃ x : Int, cs[i]? = some (.int .i64 x) := by
  have h2 : cs[i]? = some (cs[i]'(by omega)) := Array.getElem?_eq_getElem (by omega)
  have h3 := (List.all_eq_true.1 h) (cs[i]'(by omega)) (by simp)
  split at h3
  · rename_i x e
    exact ⟨x, by rw [h2, e]⟩
  · cases h3
def edges : Array Value := #[.int .i64 0, .int .i64 1, .int .i64 (-1), .int .i64 2, .int .i64 1000, .int .i64 1001, .int .i64 2147483648, .int .i64 2147483647, .int .i64 (-2147483648), .int .i64 4611686018427387904, .int .i64 9223372036854775807, .int .i64 (-9223372036854775808), .int .i64 1000000, .int .i64 1000001]
set_option maxHeartbeats 2000000 in
theorem edge_ (w : World) (p : Nat) (hR : Rd w p) :
    Calls Try.prog 35 #[.pointer (some ⟨p, 0, none⟩)] w fun e w' => ∃ v : Int, e = .returned (.int .i64 v) ∧ Rd w' p ∧ w.grownBy w' (some p) := by
  have hp := hR.lt
  have hR1 := hR.alloc (.cells edges 2)
  have hG1 : w.grownBy (w.alloc (.cells edges 2)) (some p) := World.grownBy_alloc _ _ _
  have hb1 : (w.alloc (.cells edges 2)).heap[w.heap.size]? = some (.cells edges 2 (0, 0)) := heap_alloc_new w _
  obtain ⟨w1, hw1⟩ : ∃ w1, w.alloc (.cells edges 2) = w1 := ⟨_, rfl⟩
  rw [hw1] at hR1 hG1 hb1
  unfold edges at hw1
  go_enter Try.func35, Try.ntmps35
  go_wp2_with fail
  clear hw1
  refine (n_ _ _ _ (by decide) hR1).mono ?_
  rintro e w2 ⟨v, rfl, h0, h1, hR2, hG2⟩
  obtain ⟨i, rfl⟩ := Int.eq_ofNat_of_zero_le h0
  have hi : i < 14 := by omega
  obtain ⟨x, hx⟩ := edges_at (cs := edges) (n := 14) rfl rfl i hi
  have hG3 : w.grownBy w2 (some p) := grown_to hG1 hG2 (fun i h => .inl (by injection h; omega))
  have hb2 : w2.heap[w.heap.size]? = some (.cells edges 2 (0, 0)) := (hG2.block _ (blk_lt hb1) (fun e => by injection e; omega)).trans hb1
  have hc : w2.cell? ⟨w.heap.size, i, none⟩ = some (.int .i64 x) := (cell_of_row w2 w.heap.size i edges _ (0, 0) hb2).trans hx
  clear hb1 hb2 hx
  go_wp2
  go_ret
  exact ⟨x, rfl, hR2, hG3⟩
set_option maxHeartbeats 2000000 in
set_option maxRecDepth 100000 in
theorem bytes_ (w : World) (p : Nat) (n : Nat) (hn : n ≤ 1000) (hR : Rd w p) :
    Calls Try.prog 32 #[.pointer (some ⟨p, 0, none⟩), .int .i64 (n : Int)] w fun e w' => ∃ s : ByteArray, e = .returned (.string s) ∧ s.size = n ∧ Rd w' p ∧ w.grownBy w' (some p) := by
  obtain ⟨i0, hi, hz0, hz1, hz2⟩ := info_parts info_u8
  go_enter Try.func32, Try.ntmps32
  go_wp2
  have hp := hR.lt
  have hR1 := hR.alloc (.cells #[] 5)
  go_loopw [5, 6] (fun v i wr => ∃ (m g cap : Nat) (xs : List Int), m ≤ n ∧ i = .int .i64 (m : Int) ∧ v = .slice (some ⟨g, 0, none⟩) m cap ∧ xs.length = m ∧
      wr.ownsRow w.heap.size 5 1 (.slice (some ⟨g, 0, none⟩) m cap) m (xs.map (Value.int .u8)) ∧ w.grownBy wr (some p) ∧ Rd wr p)
    (fun _ i _ => n - (intOf i).toNat)
  case atStart => exact ⟨0, w.heap.size, 0, [], Nat.zero_le _, rfl, rfl, rfl, World.ownsRow_made w #[] 0 (Nat.le_refl _) (by simp [maxLen]) rfl, World.grownBy_alloc _ _ _, hR1⟩
  case round =>
    clear hR hR1
    obtain ⟨m, g, cap, xs, hm, rfl, rfl, hlen, hown, hG, hR⟩ := hrel
    by_cases hlt : m < n
    · have hg := ownsRow_ge hown
      have k3 : m + 1 ≤ maxLen := by simp only [maxLen]; omega
      have k4 : (m + 1) * 1 ≤ 140737488355328 := by omega
      go_wp2_with (first | (go_at_call 33; refine (n_ _ _ _ (by decide) hR).mono ?_; rintro e w2 ⟨x, rfl, h0, h1, hR2, hG2⟩; have hown2 := hown.kept hG2 (.inr (by simp [Value.ownBlock]; omega)); have hx : x < 256 := by omega) |
        (at_builtin; refine wpList_append_own _ rfl (.tmp 13) (.tmp 17) 36 rfl w.heap.size 5 i0 (.int .u8 0) 1 1 Try.underlying36 hi hz0 hz1 hz2 rfl (by decide) _ _ _ rfl (hown2.alloc _) ⟨w2.heap.size, 0, none⟩ 1 1 [.int .u8 x] rfl rfl (one_new _ _ _) (one_cell _ _) k3 k4 (Nat.le_trans hG.size (Nat.le_trans hG2.size (by simp))) ?_))
      intro v' w3 hown' hgrow _
      obtain ⟨g2, cap', rfl, hg2, _⟩ := hown'.form (by omega)
      have hG3 : w.grownBy w3 (some p) := grown_to (grown_alloc (grown_to hG hG2 (fun i h => .inl (by injection h; omega))) _) hgrow (fun i h => .inr (by simp [Value.ownBlock] at h; omega))
      have hR3 : Rd w3 p := (hR2.alloc _).grown hgrow (fun i h => by simp [Value.ownBlock] at h; omega)
      go_wp2
      go_roundw
      case rel => exact ⟨m + 1, g2, cap', xs ++ [x], hlt, by go_num, rfl, by simp [hlen], by rw [List.map_append]; exact hown', hG3, hR3⟩
      case measure => simp [intOf]; omega
    · have hmn : m = n := by omega
      have hnI : ¬ (m : Int) < n := by omega
      have hfin : (convert 36 9 (.slice (some ⟨g, 0, none⟩) m cap)).run Try.prog wr = .ok (.string (strOfNums xs)) wr :=
        run_convert_bytes_arg wr 36 5 Try.underlying36 Try.underlying5 g 0 m cap xs hlen (fun i hi => by
          rw [Nat.zero_add, hown.cellAt i (by omega), List.getElem?_map, List.getD_eq_getElem?_getD, List.getElem?_eq_getElem (by omega)]
          rfl) 9 Try.underlying9
      have HL : Hid ((strOfNums xs).size = n) := Lib.hid (by rw [strOfNums_size, hlen, hmn])
      clear hmn
      generalize strOfNums xs = res at *
      go_wp2
      go_ret
      exact ⟨_, rfl, HL.out, hR, hG⟩
end Dr
end Go.Proofs.Ytlcildmhcohpbaa
