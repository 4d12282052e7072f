/-
  The text of a Jid; readJid; isDomain.
-/
import Derived.Test.YtlcildmhcohpbaaGreatDoorJr
namespace Go.Proofs.YtlcildmhcohpbaaGreatDoor
open Go.RowKit
set_option linter.unusedSimpArgs false
set_option linter.unusedVariables false
namespace Jt
open Do Jb Ja Jr
def o1 (a d : ByteArray) : ByteArray := if a.toList.isEmpty = true then d else a ++ ⟨#[64]⟩ ++ d
def txt (a d r : ByteArray) : ByteArray := if r.toList.isEmpty = true then o1 a d else o1 a d ++ (⟨#[47]⟩ ++ r)
set_option maxHeartbeats 2000000 in
theorem text_ (a d r : ByteArray) (w : World) (ha : a.size ≤ 2000000) (hd : d.size ≤ 2000000) (hr : r.size ≤ 2000000) :
    Calls Tryz.prog 44 #[.agg #[.string a, .string d, .string r]] w fun e w' => e = .returned (.string (txt a d r)) ∧ Below w.heap.size w w' := by
  have hb1 : Below w.heap.size w (w.alloc (.cells #[.string a, .string d, .string r] 50)) := (Below.refl _ _).alloc (Nat.le_refl _) _
  have s1 : (⟨#[64]⟩ : ByteArray).size = 1 := rfl
  have s2 : (⟨#[47]⟩ : ByteArray).size = 1 := rfl
  unfold txt o1
  cases h1 : a.toList.isEmpty with
  | true =>
    cases h2 : r.toList.isEmpty with
    | true =>
      go_enter Tryz.func44, Tryz.ntmps44
      go_wp2
      go_ret
      exact ⟨rfl, hb1⟩
    | false =>
      go_enter Tryz.func44, Tryz.ntmps44
      go_wp2
      go_ret
      exact ⟨rfl, hb1⟩
  | false =>
    cases h2 : r.toList.isEmpty with
    | true =>
      go_enter Tryz.func44, Tryz.ntmps44
      go_wp2
      go_ret
      exact ⟨rfl, hb1⟩
    | false =>
      go_enter Tryz.func44, Tryz.ntmps44
      go_wp2
      go_ret
      exact ⟨rfl, hb1⟩
end Jt
end Go.Proofs.YtlcildmhcohpbaaGreatDoor
