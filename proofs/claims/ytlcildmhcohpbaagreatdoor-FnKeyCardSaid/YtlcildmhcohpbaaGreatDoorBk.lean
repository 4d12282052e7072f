/-
  The walks of the reference's l02Start, l02Keys, l02Block.
-/
import Derived.Test.YtlcildmhcohpbaaGreatDoorProg
import Derived.Test.YtlcildmhcohpbaaGreatDoorBase
import Derived.Test.YtlcildmhcohpbaaGreatDoorAr
import Derived.Test.YtlcildmhcohpbaaGreatDoorSc
import Derived.Test.YtlcildmhcohpbaaGreatDoorSt
import Derived.Test.YtlcildmhcohpbaaGreatDoorPd
import Derived.WalkKit
import Derived.WalkSpells
import Derived.WalkLawsBesides
import Derived.Deep.QuietTactic
import Derived.BigQuiet
import Derived.StillTailTactics
namespace Go.Proofs.YtlcildmhcohpbaaGreatDoor
open Go.RowKit
set_option linter.unusedSimpArgs false
set_option linter.unusedVariables false
namespace Bk
def startA : Array Value := #[.int .i64 0x6a09e667, .int .i64 0xbb67ae85, .int .i64 0x3c6ef372, .int .i64 0xa54ff53a, .int .i64 0x510e527f, .int .i64 0x9b05688c, .int .i64 0x1f83d9ab, .int .i64 0x5be0cd19]
theorem startA_at (j : Nat) (h : j < 8) : startA[j]? = some (.int .i64 (Pd.start.at j)) := by
  match j, h with
  | 0, _ => rfl
  | 1, _ => rfl
  | 2, _ => rfl
  | 3, _ => rfl
  | 4, _ => rfl
  | 5, _ => rfl
  | 6, _ => rfl
  | 7, _ => rfl
theorem start_ (w : World) : Calls Tryz.prog 33 #[] w fun e w' => e = .returned (.slice (some ⟨w.heap.size, 0, none⟩) 8 8) ∧
    (∀ j, j < 8 → w'.cell? ⟨w.heap.size, j, none⟩ = some (.int .i64 (Pd.start.at j))) ∧ Below w.heap.size w w' := by
  go_enter Tryz.func33, Tryz.ntmps33
  go_wp2
  go_ret
  refine ⟨rfl, fun j hj => ?_, (Below.refl _ _).alloc (Nat.le_refl _) _⟩
  exact (cell_of_row _ w.heap.size j startA 2 (0, 0) (heap_alloc_new w _)).trans (startA_at j hj)
theorem info_u32 : (Tryz.prog.info? 58).map (fun i => (i.zero, i.size, i.bytes)) = some (some (.int .u32 0), 1, 4) := by kernel_rfl
theorem made64 : madeCells #[.int .u32 0] 64 = Ar.z64 := by kernel_rfl
theorem make_ (w : World) : (Instr.makeSlice 57 (.int .i64 64) (.int .i64 64)).run Tryz.prog w = .ok (.slice (some ⟨w.heap.size, 0, none⟩) 64 64) (w.alloc (.cells Ar.z64 58)) := by
  have := run_make_row' (P := Tryz.prog) 57 58 (.int .u32 0) 4 Tryz.underlying57 info_u32 rfl .i64 .i64 64 (by decide) (by decide) w
  rw [made64] at this
  exact this
set_option maxRecDepth 100000 in
theorem keys_ (w : World) : Calls Tryz.prog 41 #[] w fun e w' => e = .returned (.slice (some ⟨w.heap.size, 0, none⟩) 64 64) ∧
    w'.rowIs w.heap.size 58 64 (fun j => .int .u32 (Pd.K j)) ∧ Below w.heap.size w w' := by
  go_enter Tryz.func41, Tryz.ntmps41
  go_wp2
  go_ret
  refine ⟨rfl, Ar.row_of_block ?_, (Below.refl _ _).alloc (Nat.le_refl _) _⟩
  refine (heap_alloc_new w _).trans ?_
  exact congrArg (fun c => some (Obj.cells c 58)) (show _ = Ar.ws 64 Pd.K by kernel_rfl)
end Bk
end Go.Proofs.YtlcildmhcohpbaaGreatDoor
