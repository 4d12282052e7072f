/-
  The draw of a key, its parts and its answer.
-/
import Derived.Test.YtlcildmhcohpbaaGreatDoorDk
import Derived.Test.YtlcildmhcohpbaaGreatDoorKd
namespace Go.Proofs.YtlcildmhcohpbaaGreatDoor
open Go.RowKit
set_option linter.unusedSimpArgs false
set_option linter.unusedVariables false
namespace Dr
theorem up {w w' : World} {ao : Option Addr} {n : Nat} (h : Code w w.heap.size ao n) (hb : Below w.heap.size w w') : Code w' w'.heap.size ao n :=
  ⟨h.le, fun i hi => by
    obtain ⟨g, off, x, h1, h2, h3, h4, h5⟩ := h.at_ i hi
    exact ⟨g, off, x, h1, Nat.lt_of_lt_of_le h2 hb.size, h3, h4, (World.cell?_of_block (w := w) (a := ⟨g, off + i, none⟩) (hb.block g h2)).trans h5⟩⟩
set_option maxHeartbeats 4000000 in
set_option maxRecDepth 100000 in
theorem answer_ (KF : ByteArray → ByteArray → ByteArray → Int → ByteArray) (w : World) (ao : Option Addr) (n cap : Nat) (hC : Code w w.heap.size ao n)
    (hsK : ∀ S T F id w, S.size ≤ 2000000 → Calls Tryz.prog 6 #[.string S, .string T, .string F, .int .i64 id] w fun e w' => e = .returned (.string (KF S T F id)) ∧ Below w.heap.size w w')
    (hKs : ∀ S T F id, (KF S T F id).size ≤ 64) :
    Calls Tryz.prog 11 #[.slice ao n cap] w fun e w' => ∃ (S T F : ByteArray) (id : Int) (key : ByteArray), e = .returned (.tuple #[.string S, .string T, .string F, .int .i64 id, .string key]) ∧ S.size ≤ 101 ∧ T.size ≤ 101 ∧ F.size ≤ 101 ∧ key.size ≤ 65 ∧ Below w.heap.size w w' := by
  go_enter Tryz.func11, Tryz.ntmps11
  go_wp2_with fail
  refine (key_ w ao n cap hC).mono ?_
  rintro e w1 ⟨S, T, F, id, rfl, hS, hT, hF, hB⟩
  have hC1 := up hC hB
  go_wp2_with fail
  refine (source_ w1 ao n cap hC1).mono ?_
  rintro e w2 ⟨p, rfl, hp, hR, hB2⟩
  have hBB := hB.trans (hB2.mono hB.size)
  have hpw : w.heap.size ≤ p := Nat.le_trans hB.size hp
  go_wp2_with fail
  refine (hsK S T F id w2 (by omega)).mono ?_
  rintro e w3 ⟨rfl, hB3⟩
  have hR3 := hR.below hB3 hR.lt
  have hBB3 := hBB.trans (hB3.mono hBB.size)
  have hks := hKs S T F id
  generalize KF S T F id = k at *
  clear hC hC1 hB hB2 hBB hB3 hp hR
  go_wp2_with fail
  refine (one_ _ _ _ (by decide) hR3).mono ?_
  rintro e w4 ⟨b, rfl, hR4, hG4⟩
  have hB4 := to_below hBB3 hpw hG4
  clear hR3 hG4 hBB3
  cases b with
  | true =>
    go_wp2_with fail
    refine (spoil_ w4 p k (by omega) hR4).mono ?_
    rintro e w5 ⟨s, rfl, hs, hR5, hB5⟩
    go_wp2_with fail
    refine bodyPost_ret (v := .tuple #[.string S, .string T, .string F, .int .i64 id, .string s]) (by simp [results, Tryz.results11, go_sem]) rfl ?_
    exact ⟨S, T, F, id, s, rfl, hS, hT, hF, by omega, hB4.trans (hB5.mono hpw)⟩
  | false =>
    go_wp2_with fail
    refine bodyPost_ret (v := .tuple #[.string S, .string T, .string F, .int .i64 id, .string k]) (by simp [results, Tryz.results11, go_sem]) rfl ?_
    exact ⟨S, T, F, id, k, rfl, hS, hT, hF, by omega, hB4⟩
end Dr
end Go.Proofs.YtlcildmhcohpbaaGreatDoor
