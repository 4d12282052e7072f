/- The law FnExactMac walked: both Mac answer alike. -/
import Derived.Test.YtlcildmhcohpbaaMc
namespace Go.Proofs.Ytlcildmhcohpbaa
open Go.RowKit
set_option linter.unusedSimpArgs false
set_option linter.unusedVariables false
namespace ExM
set_option maxHeartbeats 1000000 in
theorem law_ (s t : ByteArray) (w : World) : Calls Try.prog 5 #[.string s, .string t] w fun e w' => e = .returned (.bool true) ∧ Below w.heap.size w w' := by
  by_cases h : 1048576 < s.size
  · have hI : (1048576 : Int) < (s.size : Int) := by omega
    go_enter Try.func5, Try.ntmps5
    go_wp2
    go_ret
    exact ⟨rfl, Below.refl _ _⟩
  · have hI : ¬ (1048576 : Int) < (s.size : Int) := by omega
    have hs : s.size ≤ 2000000 := by omega
    by_cases h2 : 1048576 < t.size
    · have hI2 : (1048576 : Int) < (t.size : Int) := by omega
      go_enter Try.func5, Try.ntmps5
      go_wp2
      go_ret
      exact ⟨rfl, Below.refl _ _⟩
    · have hI2 : ¬ (1048576 : Int) < (t.size : Int) := by omega
      have ht : t.size ≤ 2000000 := by omega
      have c1 := Mc.spec_ s t
      have c2 := fun w => Mc.impl_ s t w hs ht
      generalize Mc.M s t = res at *
      go_enter Try.func5, Try.ntmps5
      go_wp2_with (first | (go_at_call 15; refine (c1 _).mono ?_; rintro e w2 ⟨rfl, hb2⟩) | (go_at_call 16; refine (c2 _).mono ?_; rintro e w3 ⟨rfl, hb3⟩))
      go_ret
      exact ⟨rfl, hb2.trans (hb3.mono hb2.size)⟩
end ExM
end Go.Proofs.Ytlcildmhcohpbaa
