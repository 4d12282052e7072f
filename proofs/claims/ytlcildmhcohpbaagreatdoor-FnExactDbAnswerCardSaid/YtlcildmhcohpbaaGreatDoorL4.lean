/-
  The law FnExactDbAnswer walked: both DbAnswer answer alike.
-/
import Derived.Test.YtlcildmhcohpbaaGreatDoorKa
namespace Go.Proofs.YtlcildmhcohpbaaGreatDoor
open Go.RowKit
set_option linter.unusedSimpArgs false
set_option linter.unusedVariables false
namespace L4
open Ji Kd
set_option maxHeartbeats 2000000 in
theorem core (S T F : ByteArray) (id : Int) (key : ByteArray) (b : Bool) (w : World) (m : Int) (hE : Env w m) (h1 : ¬ (1048576 : Int) < (S.size : Int)) (h2 : ¬ (1048576 : Int) < (T.size : Int)) (h3 : ¬ (1048576 : Int) < (F.size : Int)) (h4 : ¬ (1048576 : Int) < (key.size : Int))
    (c1 : ∀ w, Calls Tryz.prog 8 #[.string S, .string T, .string F, .int .i64 id, .string key] w fun e w' => e = .returned (.bool b) ∧ Below w.heap.size w w')
    (c2 : ∀ w, Env w m → Calls Tryz.prog 9 #[.string S, .string T, .string F, .int .i64 id, .string key] w fun e w' => e = .returned (.bool b) ∧ Below w.heap.size w w') :
    Calls Tryz.prog 4 #[.string S, .string T, .string F, .int .i64 id, .string key] w fun e w' => e = .returned (.bool true) ∧ Below w.heap.size w w' := by
  cases b with
  | false =>
    go_enter Tryz.func4, Tryz.ntmps4
    go_wp2_with (first | (go_at_call 8; refine (c1 _).mono ?_; rintro e w2 ⟨rfl, hb2⟩) | (go_at_call 9; refine (c2 _ (hE.below hb2)).mono ?_; rintro e w3 ⟨rfl, hb3⟩))
    go_ret
    exact ⟨rfl, hb2.trans (hb3.mono hb2.size)⟩
  | true =>
    go_enter Tryz.func4, Tryz.ntmps4
    go_wp2_with (first | (go_at_call 8; refine (c1 _).mono ?_; rintro e w2 ⟨rfl, hb2⟩) | (go_at_call 9; refine (c2 _ (hE.below hb2)).mono ?_; rintro e w3 ⟨rfl, hb3⟩))
    go_ret
    exact ⟨rfl, hb2.trans (hb3.mono hb2.size)⟩
set_option maxHeartbeats 1000000 in
theorem law_ (S T F : ByteArray) (id : Int) (key : ByteArray) (w : World) (m : Int) (hE : Env w m) :
    Calls Tryz.prog 4 #[.string S, .string T, .string F, .int .i64 id, .string key] w fun e w' => e = .returned (.bool true) ∧ Below w.heap.size w w' := by
  by_cases h1 : (1048576 : Int) < (S.size : Int)
  · go_enter Tryz.func4, Tryz.ntmps4
    go_wp2_with fail
    go_ret
    exact ⟨rfl, Below.refl _ _⟩
  · by_cases h2 : (1048576 : Int) < (T.size : Int)
    · go_enter Tryz.func4, Tryz.ntmps4
      go_wp2_with fail
      go_ret
      exact ⟨rfl, Below.refl _ _⟩
    · by_cases h3 : (1048576 : Int) < (F.size : Int)
      · go_enter Tryz.func4, Tryz.ntmps4
        go_wp2_with fail
        go_ret
        exact ⟨rfl, Below.refl _ _⟩
      · by_cases h4 : (1048576 : Int) < (key.size : Int)
        · go_enter Tryz.func4, Tryz.ntmps4
          go_wp2_with fail
          go_ret
          exact ⟨rfl, Below.refl _ _⟩
        · exact core S T F id key (Ka.A S T F id key) w m hE h1 h2 h3 h4 (fun w => Ka.spec_ S T F id key w (by omega)) (fun w hE => Ka.impl_ S T F id key w m hE (by omega) (by omega) (by omega) (by omega))
end L4
end Go.Proofs.YtlcildmhcohpbaaGreatDoor
