/- The law FnExactDigest walked: both Digest answer alike. -/
import Derived.Test.YtlcildmhcohpbaaDx
namespace Go.Proofs.Ytlcildmhcohpbaa
open Go.RowKit
set_option linter.unusedSimpArgs false
set_option linter.unusedVariables false
namespace ExD
set_option maxHeartbeats 1000000 in
theorem law_ (s : ByteArray) (w : World) : Calls Try.prog 4 #[.string s] w fun e w' => e = .returned (.bool true) ∧ Below w.heap.size w w' := by
  by_cases h : 1048576 < s.size
  · have hI : (1048576 : Int) < (s.size : Int) := by omega
    go_enter Try.func4, Try.ntmps4
    go_wp2
    go_ret
    exact ⟨rfl, Below.refl _ _⟩
  · have hI : ¬ (1048576 : Int) < (s.size : Int) := by omega
    have hs : s.size ≤ 2000000 := by omega
    go_enter Try.func4, Try.ntmps4
    go_wp2_with (first | (go_at_call 13; refine (Dx.spec_ s _ hs).mono ?_; rintro e w2 ⟨rfl, hb2⟩) | (go_at_call 14; refine (Dx.impl_ s _ hs).mono ?_; rintro e w3 ⟨rfl, hb3⟩))
    go_ret
    exact ⟨rfl, hb2.trans (hb3.mono hb2.size)⟩
end ExD
end Go.Proofs.Ytlcildmhcohpbaa
