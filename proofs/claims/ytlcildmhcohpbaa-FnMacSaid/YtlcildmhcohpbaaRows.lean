/-
  No cell of these rows narrows 'for every input' (looked for: loops, veiled, ifaces, maps, wideKeys, modest, calm, conditions, laid).
  DERIVED. THE GIVEN ROWS OF THIS SEAT. 5 by the template 'for every input the law returns true; each argument reads behind the call as it read before'; 0 by the template 'total and deterministic' (their statements: YtlcildmhcohpbaaTotals.lean).
  GIVEN WITH THE SEED: the statements are not yours to turn. If you find one false, say at which input.
  Laid BY PROGRAM, IN A SANDBOX (cutbox-rows.mjs): the forced cells as the released guide's own fill.sh prints them over the translation 8b37b1f3d3334894… (all of the seat's roots in one cut). By AI agents, Wed Nov 11 2026. No macro, syntax, notation, axiom, sorry.
-/
import Derived.Test.YtlcildmhcohpbaaChecked
import GoSem.Claim
import GoSem.ClaimJoined
import GoSem.ClaimMapViews
import Derived.JoinedTies
import Derived.KernelRfl
namespace Go.Proofs.Ytlcildmhcohpbaa
/- THE CELL 'sum', in the pinned program and in every row, IS THE sha256 OF THE DUMP (.gsa) THAT YtlcildmhcohpbaaProg.lean LOADS. Nothing in Lean hashes anything: it is a label: what it is worth is what the hold of that sum in a sandbox is worth. -/
noncomputable def Try.pinned : Pinned := { name := "ytlcildmhcohpbaa", sum := "8b37b1f3d3334894abd483f4e24986a4c3c6be01ee3431d2df38ac87e691192b", checked := Try.checked }
namespace Rows
def none {H : Type} : Left H := { results := [], args := [] }

/-- 'laws.FnExactDiaryCrash': WHATEVER THE INPUT: true; the input reads as it did. -/
def fnExactDiaryCrashSpec : ChangeSpec := { name := "fnExactDiaryCrash", fn := fun _ => fun
  | [d1, d2] => { results := [.lit (.bool true)], args := [d1, d2] }
  | _ => none }
def fnExactDiaryCrashRow : OpenClaim := { program := "ytlcildmhcohpbaa", sum := "8b37b1f3d3334894abd483f4e24986a4c3c6be01ee3431d2df38ac87e691192b", func := "loop.example/g00387/laws.FnExactDiaryCrash", spec := "fnExactDiaryCrash", apart := false }
def FnExactDiaryCrashSaid : Prop := fnExactDiaryCrashRow.holds Try.pinned (OpenSpec.ofChange fnExactDiaryCrashSpec)

/-- ITS FALSE NEIGHBOUR: 'it returns false'. Refute it at one input. -/
def fnExactDiaryCrashWrong : ChangeSpec := { name := "fnExactDiaryCrash", fn := fun _ => fun
  | [d1, d2] => { results := [.lit (.bool false)], args := [d1, d2] }
  | _ => none }
def FnExactDiaryCrashWrongFalsely : Prop := fnExactDiaryCrashRow.holds Try.pinned (OpenSpec.ofChange fnExactDiaryCrashWrong)

/-- 'laws.FnExactDigest': WHATEVER THE INPUT: true; the input reads as it did. -/
def fnExactDigestSpec : ChangeSpec := { name := "fnExactDigest", fn := fun _ => fun
  | [d] => { results := [.lit (.bool true)], args := [d] }
  | _ => none }
def fnExactDigestRow : OpenClaim := { program := "ytlcildmhcohpbaa", sum := "8b37b1f3d3334894abd483f4e24986a4c3c6be01ee3431d2df38ac87e691192b", func := "loop.example/g00387/laws.FnExactDigest", spec := "fnExactDigest", inPlace := ["math.sqrt", "math.archFloor", "math.Float64bits", "math.Float64frombits", "math.archTrunc", "internal/abi.NoEscape", "internal/bytealg.MakeNoZero"], apart := false }
def FnExactDigestSaid : Prop := fnExactDigestRow.holds Try.pinned (OpenSpec.ofChange fnExactDigestSpec)

/-- ITS FALSE NEIGHBOUR: 'it returns false'. Refute it at one input. -/
def fnExactDigestWrong : ChangeSpec := { name := "fnExactDigest", fn := fun _ => fun
  | [d] => { results := [.lit (.bool false)], args := [d] }
  | _ => none }
def FnExactDigestWrongFalsely : Prop := fnExactDigestRow.holds Try.pinned (OpenSpec.ofChange fnExactDigestWrong)

/-- 'laws.FnExactMac': WHATEVER THE INPUT: true; the input reads as it did. -/
def fnExactMacSpec : ChangeSpec := { name := "fnExactMac", fn := fun _ => fun
  | [d1, d2] => { results := [.lit (.bool true)], args := [d1, d2] }
  | _ => none }
def fnExactMacRow : OpenClaim := { program := "ytlcildmhcohpbaa", sum := "8b37b1f3d3334894abd483f4e24986a4c3c6be01ee3431d2df38ac87e691192b", func := "loop.example/g00387/laws.FnExactMac", spec := "fnExactMac", inPlace := ["math.sqrt", "math.archFloor", "math.Float64bits", "math.Float64frombits", "math.archTrunc", "internal/abi.NoEscape", "internal/bytealg.MakeNoZero"], apart := false }
def FnExactMacSaid : Prop := fnExactMacRow.holds Try.pinned (OpenSpec.ofChange fnExactMacSpec)

/-- ITS FALSE NEIGHBOUR: 'it returns false'. Refute it at one input. -/
def fnExactMacWrong : ChangeSpec := { name := "fnExactMac", fn := fun _ => fun
  | [d1, d2] => { results := [.lit (.bool false)], args := [d1, d2] }
  | _ => none }
def FnExactMacWrongFalsely : Prop := fnExactMacRow.holds Try.pinned (OpenSpec.ofChange fnExactMacWrong)

/-- 'laws.FnExactStretch': WHATEVER THE INPUT: true; the input reads as it did. -/
def fnExactStretchSpec : ChangeSpec := { name := "fnExactStretch", fn := fun _ => fun
  | [d1, d2] => { results := [.lit (.bool true)], args := [d1, d2] }
  | _ => none }
def fnExactStretchRow : OpenClaim := { program := "ytlcildmhcohpbaa", sum := "8b37b1f3d3334894abd483f4e24986a4c3c6be01ee3431d2df38ac87e691192b", func := "loop.example/g00387/laws.FnExactStretch", spec := "fnExactStretch", inPlace := ["math.sqrt", "math.archFloor", "math.Float64bits", "math.Float64frombits", "math.archTrunc", "internal/abi.NoEscape", "internal/bytealg.MakeNoZero"], apart := false }
def FnExactStretchSaid : Prop := fnExactStretchRow.holds Try.pinned (OpenSpec.ofChange fnExactStretchSpec)

/-- ITS FALSE NEIGHBOUR: 'it returns false'. Refute it at one input. -/
def fnExactStretchWrong : ChangeSpec := { name := "fnExactStretch", fn := fun _ => fun
  | [d1, d2] => { results := [.lit (.bool false)], args := [d1, d2] }
  | _ => none }
def FnExactStretchWrongFalsely : Prop := fnExactStretchRow.holds Try.pinned (OpenSpec.ofChange fnExactStretchWrong)

/-- 'laws.FnMac': WHATEVER THE INPUT: true; the input reads as it did. -/
def fnMacSpec : ChangeSpec := { name := "fnMac", fn := fun _ => fun
  | [d1, d2] => { results := [.lit (.bool true)], args := [d1, d2] }
  | _ => none }
def fnMacRow : OpenClaim := { program := "ytlcildmhcohpbaa", sum := "8b37b1f3d3334894abd483f4e24986a4c3c6be01ee3431d2df38ac87e691192b", func := "loop.example/g00387/laws.FnMac", spec := "fnMac", inPlace := ["math.sqrt", "math.archFloor", "math.Float64bits", "math.Float64frombits", "math.archTrunc", "internal/abi.NoEscape", "internal/bytealg.MakeNoZero"], apart := false }
def FnMacSaid : Prop := fnMacRow.holds Try.pinned (OpenSpec.ofChange fnMacSpec)

/-- ITS FALSE NEIGHBOUR: 'it returns false'. Refute it at one input. -/
def fnMacWrong : ChangeSpec := { name := "fnMac", fn := fun _ => fun
  | [d1, d2] => { results := [.lit (.bool false)], args := [d1, d2] }
  | _ => none }
def FnMacWrongFalsely : Prop := fnMacRow.holds Try.pinned (OpenSpec.ofChange fnMacWrong)

/- THE SECOND FORM. 'bulk': how many values and letters a reading holds, each counted each time it is reached (what is shared counts as often as it is met; a slice's spare places count too). A statement '..UptoSaid' is the law's where the arguments, and the package variables that the reading takes, are together of bulk at most 1048576: NARROWER than '..Said'. Prove '..Said' where nothing that the law and all that it calls make is longer than what came in: it says more and counts as full. Else prove '..UptoSaid'. A law counts once. -/
mutual
def uptoBulk {H : Type} : DataW H → Nat
  | .lit (.string bytes) => bytes.length + 1
  | .lit _ => 1
  | .nil => 1
  | .ptr d => uptoBulk d + 1
  | .slice elems spare => uptoBulkAll elems + uptoBulkAll spare + 1
  | .agg parts => uptoBulkAll parts + 1
  | .iface _ d => uptoBulk d + 1
  | .map entries => uptoBulkEntries entries + 1
  | .held _ => 1
def uptoBulkAll {H : Type} : List (DataW H) → Nat
  | [] => 0
  | d :: r => uptoBulk d + uptoBulkAll r
def uptoBulkEntries {H : Type} : List (Lit × DataW H) → Nat
  | [] => 0
  | x :: r => uptoBulkEntry x + uptoBulkEntries r
def uptoBulkEntry {H : Type} : Lit × DataW H → Nat
  | (.string bytes, d) => bytes.length + uptoBulk d + 1
  | (_, d) => uptoBulk d + 1
 end
def uptoSmall : (H : Type) → List (DataW H) → Bool := fun _ ds => decide (uptoBulkAll ds ≤ 1048576)
def OpenSpec.upto (s : _root_.Go.ChangeSpec) : _root_.Go.OpenSpec := { _root_.Go.OpenSpec.ofChange s with cond := some uptoSmall }

/-- 'laws.FnExactDiaryCrash', WHERE WHAT IT READS IS OF BULK AT MOST 1048576: true; the input reads as it did. -/
def fnExactDiaryCrashUptoRow : OpenClaim := { program := "ytlcildmhcohpbaa", sum := "8b37b1f3d3334894abd483f4e24986a4c3c6be01ee3431d2df38ac87e691192b", func := "loop.example/g00387/laws.FnExactDiaryCrash", spec := "fnExactDiaryCrash", apart := false, narrowed := true }
def FnExactDiaryCrashUptoSaid : Prop := fnExactDiaryCrashUptoRow.holds Try.pinned (OpenSpec.upto fnExactDiaryCrashSpec)

/-- 'laws.FnExactDigest', WHERE WHAT IT READS IS OF BULK AT MOST 1048576: true; the input reads as it did. -/
def fnExactDigestUptoRow : OpenClaim := { program := "ytlcildmhcohpbaa", sum := "8b37b1f3d3334894abd483f4e24986a4c3c6be01ee3431d2df38ac87e691192b", func := "loop.example/g00387/laws.FnExactDigest", spec := "fnExactDigest", inPlace := ["math.sqrt", "math.archFloor", "math.Float64bits", "math.Float64frombits", "math.archTrunc", "internal/abi.NoEscape", "internal/bytealg.MakeNoZero"], apart := false, narrowed := true }
def FnExactDigestUptoSaid : Prop := fnExactDigestUptoRow.holds Try.pinned (OpenSpec.upto fnExactDigestSpec)

/-- 'laws.FnExactMac', WHERE WHAT IT READS IS OF BULK AT MOST 1048576: true; the input reads as it did. -/
def fnExactMacUptoRow : OpenClaim := { program := "ytlcildmhcohpbaa", sum := "8b37b1f3d3334894abd483f4e24986a4c3c6be01ee3431d2df38ac87e691192b", func := "loop.example/g00387/laws.FnExactMac", spec := "fnExactMac", inPlace := ["math.sqrt", "math.archFloor", "math.Float64bits", "math.Float64frombits", "math.archTrunc", "internal/abi.NoEscape", "internal/bytealg.MakeNoZero"], apart := false, narrowed := true }
def FnExactMacUptoSaid : Prop := fnExactMacUptoRow.holds Try.pinned (OpenSpec.upto fnExactMacSpec)

/-- 'laws.FnExactStretch', WHERE WHAT IT READS IS OF BULK AT MOST 1048576: true; the input reads as it did. -/
def fnExactStretchUptoRow : OpenClaim := { program := "ytlcildmhcohpbaa", sum := "8b37b1f3d3334894abd483f4e24986a4c3c6be01ee3431d2df38ac87e691192b", func := "loop.example/g00387/laws.FnExactStretch", spec := "fnExactStretch", inPlace := ["math.sqrt", "math.archFloor", "math.Float64bits", "math.Float64frombits", "math.archTrunc", "internal/abi.NoEscape", "internal/bytealg.MakeNoZero"], apart := false, narrowed := true }
def FnExactStretchUptoSaid : Prop := fnExactStretchUptoRow.holds Try.pinned (OpenSpec.upto fnExactStretchSpec)

/-- 'laws.FnMac', WHERE WHAT IT READS IS OF BULK AT MOST 1048576: true; the input reads as it did. -/
def fnMacUptoRow : OpenClaim := { program := "ytlcildmhcohpbaa", sum := "8b37b1f3d3334894abd483f4e24986a4c3c6be01ee3431d2df38ac87e691192b", func := "loop.example/g00387/laws.FnMac", spec := "fnMac", inPlace := ["math.sqrt", "math.archFloor", "math.Float64bits", "math.Float64frombits", "math.archTrunc", "internal/abi.NoEscape", "internal/bytealg.MakeNoZero"], apart := false, narrowed := true }
def FnMacUptoSaid : Prop := fnMacUptoRow.holds Try.pinned (OpenSpec.upto fnMacSpec)

end Rows
end Go.Proofs.Ytlcildmhcohpbaa
