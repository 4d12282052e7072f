/-
  The law FnKey walked.
-/
import Derived.Test.YtlcildmhcohpbaaGreatDoorDa
import Derived.Test.YtlcildmhcohpbaaGreatDoorKa
namespace Go.Proofs.YtlcildmhcohpbaaGreatDoor
open Go.RowKit
set_option linter.unusedSimpArgs false
set_option linter.unusedVariables false
namespace L5
open Ji Kd
theorem A_self (S T F : ByteArray) (id : Int) (h : (K S T F id).toList.isEmpty = false) : (K S T F id).size = 64 ∧ Ka.A S T F id (K S T F id) = true := by
  constructor
  · cases ho : okB S T F id with
    | true => rw [K_yes ho]; exact full_size S T F id
    | false =>
      rw [K_no ho, Jz.nil_empty] at h
      cases h
  · unfold Ka.A
    rw [h]
    simp
set_option maxHeartbeats 4000000 in
set_option maxRecDepth 100000 in
theorem core (KF : ByteArray → ByteArray → ByteArray → Int → ByteArray) (AF : ByteArray → ByteArray → ByteArray → Int → ByteArray → Bool) (m : Int) (ao ao2 : Option Addr) (n n2 cap cap2 : Nat) (w : World) (hE : Env w m)
    (hI : ¬ (1048576 : Int) < (n : Int)) (hI2 : ¬ (1048576 : Int) < (n2 : Int)) (hD : Dr.Code w w.heap.size ao n) (hD2 : Dr.Code w w.heap.size ao2 n2)
    (hsK : ∀ S T F id w, S.size ≤ 2000000 → Calls Tryz.prog 6 #[.string S, .string T, .string F, .int .i64 id] w fun e w' => e = .returned (.string (KF S T F id)) ∧ Below w.heap.size w w')
    (hiK : ∀ S T F id w, Env w m → S.size ≤ 2000000 → T.size ≤ 2000000 → F.size ≤ 2000000 → Calls Tryz.prog 7 #[.string S, .string T, .string F, .int .i64 id] w fun e w' => e = .returned (.string (KF S T F id)) ∧ Below w.heap.size w w')
    (hA : ∀ S T F id key w, Env w m → S.size ≤ 2000000 → T.size ≤ 2000000 → F.size ≤ 2000000 → key.size ≤ 2000000 → Calls Tryz.prog 9 #[.string S, .string T, .string F, .int .i64 id, .string key] w fun e w' => e = .returned (.bool (AF S T F id key)) ∧ Below w.heap.size w w')
    (hKs : ∀ S T F id, (KF S T F id).size ≤ 64) (hself : ∀ S T F id, (KF S T F id).toList.isEmpty = false → (KF S T F id).size = 64 ∧ AF S T F id (KF S T F id) = true)
    (hAF : ∀ S T F id key, AF S T F id key = (!key.toList.isEmpty && ((KF S T F id).toList == key.toList))) :
    Calls Tryz.prog 5 #[.slice ao n cap, .slice ao2 n2 cap2] w fun e w' => e = .returned (.bool true) ∧ Below w.heap.size w w' := by
  have hdraw := fun w hD2 => Dr.answer_ KF w ao2 n2 cap2 hD2 hsK hKs
  go_enter Tryz.func5, Tryz.ntmps5
  go_wp2_with fail
  refine (Dr.key_ _ _ _ _ hD).mono ?_
  rintro e w1 ⟨S, T, F, id, rfl, hS, hT, hF, hB⟩
  have c1 := fun w hE => hiK S T F id w hE (by omega) (by omega) (by omega)
  have c2 := fun w => hsK S T F id w (by omega)
  have hs64 := hKs S T F id
  have c3 := fun w hE => hA S T F id (KF S T F id) w hE (by omega) (by omega) (by omega) (by omega)
  have hsf := hself S T F id
  generalize AF S T F id (KF S T F id) = aa at *
  generalize KF S T F id = k at *
  cases hq : k.toList.isEmpty with
  | true =>
    clear c3 hsf
    go_wp2_with (first
      | (go_at_call 7; refine (c1 _ (hE.below hB)).mono ?_; rintro e w' ⟨rfl, hb'⟩; replace hB := Below.trans hB (Below.mono hb' hB.size); clear hb')
      | (go_at_call 6; refine (c2 _).mono ?_; rintro e w' ⟨rfl, hb'⟩; replace hB := Below.trans hB (Below.mono hb' hB.size); clear hb'))
    clear c1 c2 hs64
    refine (hdraw _ (Dr.up hD2 hB)).mono ?_
    rintro e w9 ⟨S2, T2, F2, id2, key, rfl, hS2, hT2, hF2, hkey, hb9⟩
    replace hB := Below.trans hB (Below.mono hb9 hB.size)
    have d1 := fun w => hsK S2 T2 F2 id2 w (by omega)
    have d2 := fun w hE => hA S2 T2 F2 id2 key w hE (by omega) (by omega) (by omega) (by omega)
    rw [hAF] at d2
    clear hdraw hiK hA hsK hself hAF hKs hb9
    generalize KF S2 T2 F2 id2 = k2 at *
    cases h1 : key.toList.isEmpty with
    | true =>
      rw [h1] at d2
      simp only [Bool.not_true, Bool.false_and] at d2
      go_wp2_with (go_at_call 9; refine (d2 _ (hE.below hB)).mono ?_; rintro e w' ⟨rfl, hb'⟩; replace hB := Below.trans hB (Below.mono hb' hB.size); clear hb')
      go_ret
      exact ⟨rfl, hB⟩
    | false =>
      rw [h1] at d2
      simp only [Bool.not_false, Bool.true_and] at d2
      cases h2 : (k2.toList == key.toList) with
      | true =>
        rw [h2] at d2
        go_wp2_with (first
          | (go_at_call 9; refine (d2 _ (hE.below hB)).mono ?_; rintro e w' ⟨rfl, hb'⟩; replace hB := Below.trans hB (Below.mono hb' hB.size); clear hb')
          | (go_at_call 6; refine (d1 _).mono ?_; rintro e w' ⟨rfl, hb'⟩; replace hB := Below.trans hB (Below.mono hb' hB.size); clear hb'))
        go_ret
        exact ⟨rfl, hB⟩
      | false =>
        rw [h2] at d2
        go_wp2_with (first
          | (go_at_call 9; refine (d2 _ (hE.below hB)).mono ?_; rintro e w' ⟨rfl, hb'⟩; replace hB := Below.trans hB (Below.mono hb' hB.size); clear hb')
          | (go_at_call 6; refine (d1 _).mono ?_; rintro e w' ⟨rfl, hb'⟩; replace hB := Below.trans hB (Below.mono hb' hB.size); clear hb'))
        go_ret
        exact ⟨rfl, hB⟩
  | false =>
    obtain ⟨h64, haa⟩ := hsf hq
    subst haa
    have h64I : (k.size : Int) = 64 := by omega
    clear hsf
    go_wp2_with (first
      | (go_at_call 7; refine (c1 _ (hE.below hB)).mono ?_; rintro e w' ⟨rfl, hb'⟩; replace hB := Below.trans hB (Below.mono hb' hB.size); clear hb')
      | (go_at_call 6; refine (c2 _).mono ?_; rintro e w' ⟨rfl, hb'⟩; replace hB := Below.trans hB (Below.mono hb' hB.size); clear hb')
      | (go_at_call 9; refine (c3 _ (hE.below hB)).mono ?_; rintro e w' ⟨rfl, hb'⟩; replace hB := Below.trans hB (Below.mono hb' hB.size); clear hb'))
    clear c1 c2 hs64
    refine (hdraw _ (Dr.up hD2 hB)).mono ?_
    rintro e w9 ⟨S2, T2, F2, id2, key, rfl, hS2, hT2, hF2, hkey, hb9⟩
    replace hB := Below.trans hB (Below.mono hb9 hB.size)
    have d1 := fun w => hsK S2 T2 F2 id2 w (by omega)
    have d2 := fun w hE => hA S2 T2 F2 id2 key w hE (by omega) (by omega) (by omega) (by omega)
    rw [hAF] at d2
    clear hdraw hiK hA hsK hself hAF hKs hb9
    generalize KF S2 T2 F2 id2 = k2 at *
    cases h1 : key.toList.isEmpty with
    | true =>
      rw [h1] at d2
      simp only [Bool.not_true, Bool.false_and] at d2
      go_wp2_with (go_at_call 9; refine (d2 _ (hE.below hB)).mono ?_; rintro e w' ⟨rfl, hb'⟩; replace hB := Below.trans hB (Below.mono hb' hB.size); clear hb')
      go_ret
      exact ⟨rfl, hB⟩
    | false =>
      rw [h1] at d2
      simp only [Bool.not_false, Bool.true_and] at d2
      cases h2 : (k2.toList == key.toList) with
      | true =>
        rw [h2] at d2
        go_wp2_with (first
          | (go_at_call 9; refine (d2 _ (hE.below hB)).mono ?_; rintro e w' ⟨rfl, hb'⟩; replace hB := Below.trans hB (Below.mono hb' hB.size); clear hb')
          | (go_at_call 6; refine (d1 _).mono ?_; rintro e w' ⟨rfl, hb'⟩; replace hB := Below.trans hB (Below.mono hb' hB.size); clear hb'))
        go_ret
        exact ⟨rfl, hB⟩
      | false =>
        rw [h2] at d2
        go_wp2_with (first
          | (go_at_call 9; refine (d2 _ (hE.below hB)).mono ?_; rintro e w' ⟨rfl, hb'⟩; replace hB := Below.trans hB (Below.mono hb' hB.size); clear hb')
          | (go_at_call 6; refine (d1 _).mono ?_; rintro e w' ⟨rfl, hb'⟩; replace hB := Below.trans hB (Below.mono hb' hB.size); clear hb'))
        go_ret
        exact ⟨rfl, hB⟩
set_option maxHeartbeats 1000000 in
theorem law_ (m : Int) (ao ao2 : Option Addr) (n n2 cap cap2 : Nat) (w : World) (hE : Env w m) (hC : n ≤ 1048576 → Dr.Code w w.heap.size ao n) (hC2 : n2 ≤ 1048576 → Dr.Code w w.heap.size ao2 n2) :
    Calls Tryz.prog 5 #[.slice ao n cap, .slice ao2 n2 cap2] w fun e w' => e = .returned (.bool true) ∧ Below w.heap.size w w' := by
  by_cases h : 1048576 < n
  · have hI : (1048576 : Int) < (n : Int) := by omega
    go_enter Tryz.func5, Tryz.ntmps5
    go_wp2_with fail
    go_ret
    exact ⟨rfl, Below.refl _ _⟩
  · have hI : ¬ (1048576 : Int) < (n : Int) := by omega
    by_cases h2 : 1048576 < n2
    · have hI2 : (1048576 : Int) < (n2 : Int) := by omega
      go_enter Tryz.func5, Tryz.ntmps5
      go_wp2_with fail
      go_ret
      exact ⟨rfl, Below.refl _ _⟩
    · have hI2 : ¬ (1048576 : Int) < (n2 : Int) := by omega
      have hD := hC (by omega)
      have hD2 := hC2 (by omega)
      exact core K Ka.A m ao ao2 n n2 cap cap2 w hE hI hI2 hD hD2 (fun S T F id w hs => spec_ S T F id w hs) (fun S T F id w hE hs ht hf => Ki.impl_ S T F id w m hE hs ht hf)
        (fun S T F id key w hE hs ht hf hk => Ka.impl_ S T F id key w m hE hs ht hf hk) Ka.K_size A_self (fun S T F id key => rfl)
end L5
end Go.Proofs.YtlcildmhcohpbaaGreatDoor
