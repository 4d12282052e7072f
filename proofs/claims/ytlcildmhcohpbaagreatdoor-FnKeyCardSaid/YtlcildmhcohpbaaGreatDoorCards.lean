/-
  DERIVED. GIVEN WITH THE SEED: THE CARDS: each row of YtlcildmhcohpbaaGreatDoorRows.lean that lists a variable, with what it lists TIED to the program's text (the seventh form; the later family's looks); each row that meets fmt, with fmt's text TOLD by the authors' own Lean function (tested against real Go, not proved from fmt's source: count such statements apart). THE CARD IS WHAT COUNTS. Prove the row's statement (the work); the ties are given (YtlcildmhcohpbaaGreatDoorTie.lean); close each card by the builder's one call (the guide's Derived/Test/ToyasCard.lean, 'card_holds'). Laid BY PROGRAM, IN A SANDBOX (cutbox-door.mjs). By AI agents, Wed Nov 11 2026. No macro, syntax, notation, axiom, sorry.
-/
import Derived.Test.YtlcildmhcohpbaaGreatDoorRows
import GoSem.ClaimSeven
namespace Go.Proofs.YtlcildmhcohpbaaGreatDoor
namespace Rows

/-- THE TIED CARD OF 'laws.FnExactDbKey'. -/
def fnExactDbKeyCard : Claim7 := { stood := { row := fnExactDbKeyRow, standIns := [], harness := (true, "474e99e669358c7002d982537f5f913e36624932564645ef5209dae75a484bb5"), looks := false }, kinds := [], alts := [], laidByText := true, laidKinds := [.data, .data, .data, .data, .pinned], laidTests := true, laidLooks := .later }
def FnExactDbKeyCardSaid : Prop := Claim7.holds Tryz.pinned (.plain (OpenSpec.ofChange fnExactDbKeySpec)) fnExactDbKeyCard

/-- THE TIED CARD OF 'laws.FnExactDbAnswer'. -/
def fnExactDbAnswerCard : Claim7 := { stood := { row := fnExactDbAnswerRow, standIns := [], harness := (true, "474e99e669358c7002d982537f5f913e36624932564645ef5209dae75a484bb5"), looks := false }, kinds := [], alts := [], laidByText := true, laidKinds := [.data, .data, .data, .data, .pinned], laidTests := true, laidLooks := .later }
def FnExactDbAnswerCardSaid : Prop := Claim7.holds Tryz.pinned (.plain (OpenSpec.ofChange fnExactDbAnswerSpec)) fnExactDbAnswerCard

/-- THE TIED CARD OF 'laws.FnKey'. -/
def fnKeyCard : Claim7 := { stood := { row := fnKeyRow, standIns := [], harness := (true, "474e99e669358c7002d982537f5f913e36624932564645ef5209dae75a484bb5"), looks := false }, kinds := [], alts := [], laidByText := true, laidKinds := [.data, .data, .data, .data, .pinned], laidTests := true, laidLooks := .later }
def FnKeyCardSaid : Prop := Claim7.holds Tryz.pinned (.plain (OpenSpec.ofChange fnKeySpec)) fnKeyCard

/-- THE SECOND FORM's CARD OF 'laws.FnExactDbKey'. -/
def fnExactDbKeyUptoCard : Claim7 := { stood := { row := fnExactDbKeyUptoRow, standIns := [], harness := (true, "474e99e669358c7002d982537f5f913e36624932564645ef5209dae75a484bb5"), looks := false }, kinds := [], alts := [], laidByText := true, laidKinds := [.data, .data, .data, .data, .pinned], laidTests := true, laidLooks := .later }
def FnExactDbKeyUptoCardSaid : Prop := Claim7.holds Tryz.pinned (.plain (OpenSpec.upto fnExactDbKeySpec)) fnExactDbKeyUptoCard

/-- THE SECOND FORM's CARD OF 'laws.FnExactDbAnswer'. -/
def fnExactDbAnswerUptoCard : Claim7 := { stood := { row := fnExactDbAnswerUptoRow, standIns := [], harness := (true, "474e99e669358c7002d982537f5f913e36624932564645ef5209dae75a484bb5"), looks := false }, kinds := [], alts := [], laidByText := true, laidKinds := [.data, .data, .data, .data, .pinned], laidTests := true, laidLooks := .later }
def FnExactDbAnswerUptoCardSaid : Prop := Claim7.holds Tryz.pinned (.plain (OpenSpec.upto fnExactDbAnswerSpec)) fnExactDbAnswerUptoCard

/-- THE SECOND FORM's CARD OF 'laws.FnKey'. -/
def fnKeyUptoCard : Claim7 := { stood := { row := fnKeyUptoRow, standIns := [], harness := (true, "474e99e669358c7002d982537f5f913e36624932564645ef5209dae75a484bb5"), looks := false }, kinds := [], alts := [], laidByText := true, laidKinds := [.data, .data, .data, .data, .pinned], laidTests := true, laidLooks := .later }
def FnKeyUptoCardSaid : Prop := Claim7.holds Tryz.pinned (.plain (OpenSpec.upto fnKeySpec)) fnKeyUptoCard
end Rows
end Go.Proofs.YtlcildmhcohpbaaGreatDoor
