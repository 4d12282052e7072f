/- The law FnExactStretch walked: both Stretch answer alike. -/
import Derived.Test.YtlcildmhcohpbaaSx
namespace Go.Proofs.Ytlcildmhcohpbaa
open Go.RowKit
set_option linter.unusedSimpArgs false
set_option linter.unusedVariables false
namespace ExS
set_option maxHeartbeats 1000000 in
theorem law_ (s : ByteArray) (n : Int) (w : World) : Calls Try.prog 6 #[.string s, .int .i64 n] w fun e w' => e = .returned (.bool true) ∧ Below w.heap.size w w' := by
  by_cases h : 1048576 < s.size
  · have hI : (1048576 : Int) < (s.size : Int) := by omega
    go_enter Try.func6, Try.ntmps6
    go_wp2
    go_ret
    exact ⟨rfl, Below.refl _ _⟩
  · have hI : ¬ (1048576 : Int) < (s.size : Int) := by omega
    have hs : s.size ≤ 2000000 := by omega
    have c1 := Sx.spec_ s n
    have c2 := fun w => Sx.impl_ s n w hs
    generalize Sx.S s n = res at *
    go_enter Try.func6, Try.ntmps6
    go_wp2_with (first | (go_at_call 17; refine (c1 _).mono ?_; rintro e w2 ⟨rfl, hb2⟩) | (go_at_call 18; refine (c2 _).mono ?_; rintro e w3 ⟨rfl, hb3⟩))
    go_ret
    exact ⟨rfl, hb2.trans (hb3.mono hb2.size)⟩
end ExS
end Go.Proofs.Ytlcildmhcohpbaa
