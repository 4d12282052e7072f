/-
  The reference's draws: pick, spoil.
-/
import Derived.Test.YtlcildmhcohpbaaGreatDoorDw
import Derived.Test.YtlcildmhcohpbaaGreatDoorHx
namespace Go.Proofs.YtlcildmhcohpbaaGreatDoor
open Go.RowKit
set_option linter.unusedSimpArgs false
set_option linter.unusedVariables false
namespace Dr
theorem below_grown {w w1 w2 : World} {p : Nat} (h : Below p w w1) (hw : p ≤ w.heap.size) (hg : w1.grownBy w2 (some p)) : Below p w w2 :=
  h.grown hg (Nat.le_trans hw h.size) (fun i e => by injection e; omega)
theorem Rd.drew {w : World} {p : Nat} (h : Rd w p) : Rd w.drew p := h.keep (fun g hg => rfl)
theorem Rd.drewN {w : World} {p : Nat} (h : Rd w p) (n : Nat) : Rd (w.drewN n) p := h.keep (fun g hg => rfl)
set_option maxHeartbeats 2000000 in
theorem pick_ (w : World) (p g n : Nat) (ss : List ByteArray) (hR : Rd w p) (h1 : 1 ≤ n) (h2 : n ≤ 1000) (hg : g < w.heap.size) (hgp : g ≠ p)
    (hc : ∀ j, j < n → w.cell? ⟨g, j, none⟩ = some (.string (ss.getD j ByteArray.empty))) :
    Calls Tryz.prog 27 #[.pointer (some ⟨p, 0, none⟩), .slice (some ⟨g, 0, none⟩) n n] w fun e w' => ∃ i : Nat, i < n ∧ e = .returned (.string (ss.getD i ByteArray.empty)) ∧ Rd w' p ∧ w.grownBy w' (some p) := by
  have hnb : (n : Int) ≤ 9223372036854775807 := by omega
  have keep : ∀ (w2 : World) (i : Nat), w.grownBy w2 (some p) → i < n → w2.cell? ⟨g, i, none⟩ = some (.string (ss.getD i ByteArray.empty)) := fun w2 i hG hi => (World.cell?_of_block (a := ⟨g, i, none⟩) (hG.block g hg (fun e => by injection e; omega))).trans (hc i hi)
  go_enter Tryz.func27, Tryz.ntmps27
  go_wp2_with fail
  refine (n_ _ _ _ hnb hR).mono ?_
  rintro e w2 ⟨v, rfl, h0, hv, hR2, hG⟩
  obtain ⟨i, rfl⟩ := Int.eq_ofNat_of_zero_le h0
  have hi : i < n := by omega
  have hcc := keep w2 i hG hi
  have hiI : (i : Int) < (n : Int) := by omega
  go_wp2_with fail
  go_ret
  exact ⟨i, hi, rfl, hR2, hG⟩
end Dr
end Go.Proofs.YtlcildmhcohpbaaGreatDoor
