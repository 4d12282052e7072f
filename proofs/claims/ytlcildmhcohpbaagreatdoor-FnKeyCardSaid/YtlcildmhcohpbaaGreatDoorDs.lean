/-
  The reference's draws: edge, bytes, the source itself.
-/
import Derived.Test.YtlcildmhcohpbaaGreatDoorDr
import Derived.Deep.AppendLies
import Derived.Laws.BytesArg
namespace Go.Proofs.YtlcildmhcohpbaaGreatDoor
open Go.RowKit
set_option linter.unusedSimpArgs false
set_option linter.unusedVariables false
namespace Dr
theorem blk_lt {w : World} {b : Nat} {o : Obj} (h : w.heap[b]? = some o) : b < w.heap.size := by
  rcases Nat.lt_or_ge b w.heap.size with h1 | h1
  · exact h1
  · rw [Array.getElem?_eq_none h1] at h
    cases h
theorem info_u8 : (Tryz.prog.info? 5).map (fun i => (i.zero, i.size, i.bytes)) = some (some (.int .u8 0), 1, 1) := by kernel_rfl
theorem grown_to {a b c : World} {p : Nat} {row : Option Nat} (h : a.grownBy b (some p)) (k : b.grownBy c row) (hr : ∀ i, row = some i → i = p ∨ a.heap.size ≤ i) : a.grownBy c (some p) :=
  ⟨k.os.trans h.os, k.tape.trans h.tape, k.output.trans h.output, Nat.le_trans h.size k.size, fun i hi hne => (k.block i (Nat.lt_of_lt_of_le hi h.size) (fun e => by
    rcases hr i e.symm with h1 | h1
    · exact hne (by rw [h1])
    · omega)).trans (h.block i hi hne)⟩
theorem edges_at {cs : Array Value} {n : Nat} (hs : cs.size = n) (h : cs.toList.all (fun v => match v with | .int .i64 _ => true | _ => false) = true) (i : Nat) (hi : i < n) : ∃ x : Int, cs[i]? = some (.int .i64 x) := by
  have h2 : cs[i]? = some (cs[i]'(by omega)) := Array.getElem?_eq_getElem (by omega)
  have h3 := (List.all_eq_true.1 h) (cs[i]'(by omega)) (by simp)
  split at h3
  · rename_i x e
    exact ⟨x, by rw [h2, e]⟩
  · cases h3
def edges : Array Value := #[.int .i64 0, .int .i64 1, .int .i64 (-1), .int .i64 2, .int .i64 1000, .int .i64 1001, .int .i64 2147483648, .int .i64 2147483647, .int .i64 (-2147483648), .int .i64 4611686018427387904, .int .i64 9223372036854775807, .int .i64 (-9223372036854775808), .int .i64 1000000, .int .i64 1000001]
end Dr
end Go.Proofs.YtlcildmhcohpbaaGreatDoor
