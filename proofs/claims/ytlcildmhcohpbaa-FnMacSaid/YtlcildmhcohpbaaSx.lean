/-
  The two Stretch.
-/
import Derived.Test.YtlcildmhcohpbaaMc
namespace Go.Proofs.Ytlcildmhcohpbaa
open Go.RowKit
set_option linter.unusedSimpArgs false
set_option linter.unusedVariables false
namespace Sx
def it (p : ByteArray) : Nat → ByteArray
  | 0 => ⟨#[115, 97, 108, 116]⟩
  | k + 1 => Mc.mac p (it p k)
theorem it_size (p : ByteArray) (k : Nat) : (it p k).size ≤ 32 := by
  cases k with
  | zero => rw [it]; decide
  | succ k => rw [it, Mc.mac_size]; omega
def S (p : ByteArray) (n : Int) : ByteArray := if 20000 < p.size ∨ n < 1 ∨ 100 < n then ByteArray.empty else it p n.toNat
set_option maxHeartbeats 2000000 in
set_option maxRecDepth 100000 in
theorem specc (p : ByteArray) (N : Nat) (it : Nat → ByteArray) (w : World) (hp : p.size ≤ 20000) (h0 : 1 ≤ N) (h1 : N ≤ 100) (hi : Hid (it 0 = ⟨#[115, 97, 108, 116]⟩))
    (hm : ∀ k w, Calls Try.prog 29 #[.string p, .string (it k)] w fun e w' => e = .returned (.string (it (k + 1))) ∧ Below w.heap.size w w') :
    Calls Try.prog 17 #[.string p, .int .i64 (N : Int)] w fun e w' => e = .returned (.string (it N)) ∧ Below w.heap.size w w' := by
  go_enter Try.func17, Try.ntmps17
  go_wp2
  go_loopw [5, 6] (fun t i wr => ∃ m : Nat, m ≤ N ∧ i = .int .i64 (m : Int) ∧ t = .string (it m) ∧ Below w.heap.size w wr) (fun _ i _ => N - (intOf i).toNat)
  case atStart => exact ⟨0, Nat.zero_le _, rfl, by rw [hi.out], Below.refl _ _⟩
  case round =>
    obtain ⟨m, hmN, rfl, rfl, hB⟩ := hrel
    by_cases hlt : m < N
    · go_wp2_with (go_at_call 29; refine (hm m _).mono ?_; rintro e w' ⟨rfl, hb'⟩; replace hB := Below.trans hB (Below.mono hb' hB.size); clear hb')
      go_roundw
      case rel => exact ⟨m + 1, hlt, by go_num, rfl, hB⟩
      case measure => simp [intOf]; omega
    · have hmn : m = N := by omega
      subst hmn
      go_wp2
      go_ret
      exact ⟨rfl, hB⟩
set_option maxHeartbeats 2000000 in
theorem spec_ (p : ByteArray) (n : Int) (w : World) : Calls Try.prog 17 #[.string p, .int .i64 n] w fun e w' => e = .returned (.string (S p n)) ∧ Below w.heap.size w w' := by
  unfold S
  by_cases h1 : 20000 < p.size
  · have hI : (20000 : Int) < (p.size : Int) := by omega
    rw [if_pos (.inl h1)]
    go_enter Try.func17, Try.ntmps17
    go_wp2
    go_ret
    exact ⟨rfl, Below.refl _ _⟩
  · have hI : ¬ (20000 : Int) < (p.size : Int) := by omega
    by_cases h2 : n < 1
    · rw [if_pos (.inr (.inl h2))]
      go_enter Try.func17, Try.ntmps17
      go_wp2
      go_ret
      exact ⟨rfl, Below.refl _ _⟩
    · by_cases h3 : 100 < n
      · rw [if_pos (.inr (.inr h3))]
        go_enter Try.func17, Try.ntmps17
        go_wp2
        go_ret
        exact ⟨rfl, Below.refl _ _⟩
      · obtain ⟨N, rfl⟩ := Int.eq_ofNat_of_zero_le (show 0 ≤ n by omega)
        rw [if_neg (by omega), Int.toNat_natCast]
        exact specc p N (it p) w (by omega) (by omega) (by omega) (Lib.hid rfl) (fun k w => Mc.l02_ p (it p k) w (by omega) (by have := it_size p k; omega))
theorem in_ (n a b : Int) (w : World) : Calls Try.prog 25 #[.int .i64 n, .int .i64 a, .int .i64 b] w fun e w' => e = .returned (.bool (decide (a ≤ n ∧ n ≤ b))) ∧ w = w' := by
  by_cases h1 : a ≤ n
  · by_cases h2 : n ≤ b
    · have e : decide (a ≤ n ∧ n ≤ b) = true := by simp [h1, h2]
      rw [e]
      go_enter Try.func25, Try.ntmps25
      go_wp2
      go_ret
      exact ⟨rfl, rfl⟩
    · have e : decide (a ≤ n ∧ n ≤ b) = false := by simp [h2]
      rw [e]
      go_enter Try.func25, Try.ntmps25
      go_wp2
      go_ret
      exact ⟨rfl, rfl⟩
  · have e : decide (a ≤ n ∧ n ≤ b) = false := by simp; omega
    rw [e]
    go_enter Try.func25, Try.ntmps25
    go_wp2
    go_ret
    exact ⟨rfl, rfl⟩
theorem in_yes (n a b : Int) (h : a ≤ n ∧ n ≤ b) (w : World) : Calls Try.prog 25 #[.int .i64 n, .int .i64 a, .int .i64 b] w fun e w' => e = .returned (.bool true) ∧ w = w' := by
  have := in_ n a b w
  rw [decide_eq_true h] at this
  exact this
theorem in_no (n a b : Int) (h : ¬ (a ≤ n ∧ n ≤ b)) (w : World) : Calls Try.prog 25 #[.int .i64 n, .int .i64 a, .int .i64 b] w fun e w' => e = .returned (.bool false) ∧ w = w' := by
  have := in_ n a b w
  rw [decide_eq_false h] at this
  exact this
set_option maxHeartbeats 2000000 in
set_option maxRecDepth 100000 in
theorem implc (p : ByteArray) (N : Nat) (it : Nat → ByteArray) (w w1 : World) (hw1 : w.alloc (.cells #[.string p] 9) = w1) (hb1 : Below w.heap.size w w1) (hp : p.size ≤ 20000) (h0 : 1 ≤ N) (h1 : N ≤ 100) (hi : Hid (it 0 = ⟨#[115, 97, 108, 116]⟩))
    (hlg : Calls Try.prog 27 #[.slice (some ⟨w.heap.size, 0, none⟩) 1 1] w1 fun e w' => e = .returned (.bool false) ∧ w1 = w')
    (hm : ∀ k w, Calls Try.prog 16 #[.string p, .string (it k)] w fun e w' => e = .returned (.string (it (k + 1))) ∧ Below w.heap.size w w') :
    Calls Try.prog 18 #[.string p, .int .i64 (N : Int)] w fun e w' => e = .returned (.string (it N)) ∧ Below w.heap.size w w' := by
  subst hw1
  have hin := in_yes N 1 100 (by omega)
  go_enter Try.func18, Try.ntmps18
  go_wp2_with (first | (go_at_call 27; refine hlg.mono ?_; rintro e w2 ⟨rfl, rfl⟩) | (go_at_call 25; refine (hin _).mono ?_; rintro e w3 ⟨rfl, rfl⟩))
  clear hlg
  generalize w.alloc (.cells #[.string p] 9) = w1 at *
  go_loopw [5, 15] (fun t i wr => ∃ m : Nat, m ≤ N ∧ i = .int .i64 (m : Int) ∧ t = .string (it m) ∧ Below w.heap.size w wr) (fun _ i _ => N - (intOf i).toNat)
  case atStart => exact ⟨0, Nat.zero_le _, rfl, by rw [hi.out], hb1⟩
  case round =>
    clear hb1
    obtain ⟨m, hmN, rfl, rfl, hB⟩ := hrel
    by_cases hlt : m < N
    · go_wp2_with (go_at_call 16; refine (hm m _).mono ?_; rintro e w' ⟨rfl, hb'⟩; replace hB := Below.trans hB (Below.mono hb' hB.size); clear hb')
      go_roundw
      case rel => exact ⟨m + 1, hlt, by go_num, rfl, hB⟩
      case measure => simp [intOf]; omega
    · have hmn : m = N := by omega
      subst hmn
      go_wp2
      go_ret
      exact ⟨rfl, hB⟩
theorem one_cellAt (p : ByteArray) (w : World) (T : TypeId) : ∀ j, j < 1 → (w.alloc (.cells #[.string p] T)).cell? ⟨w.heap.size, j, none⟩ = some (.string ([p].getD j ByteArray.empty)) := fun j hj => by
  obtain rfl : j = 0 := by omega
  go_simp
theorem M_mac (p t : ByteArray) (h1 : p.size ≤ 20000) (h2 : t.size ≤ 20000) : Mc.M p t = Mc.mac p t := by
  unfold Mc.M
  rw [if_neg (by omega)]
set_option maxHeartbeats 2000000 in
theorem impl_ (p : ByteArray) (n : Int) (w : World) (hp : p.size ≤ 2000000) : Calls Try.prog 18 #[.string p, .int .i64 n] w fun e w' => e = .returned (.string (S p n)) ∧ Below w.heap.size w w' := by
  have hlg := Dx.long_ [p] w.heap.size 1 1 (w.alloc (.cells #[.string p] 9)) rfl (by decide) (fun x hx => by simp at hx; subst hx; exact hp) (one_cellAt p w _)
  have hb1 : Below w.heap.size w (w.alloc (.cells #[.string p] 9)) := (Below.refl _ _).alloc (Nat.le_refl _) _
  unfold S
  by_cases h1 : 20000 < p.size
  · have hany : ([p].any fun s => decide (20000 < s.size)) = true := by simpa using h1
    rw [hany] at hlg
    rw [if_pos (.inl h1)]
    have hin := in_ n 1 100
    go_enter Try.func18, Try.ntmps18
    go_wp2_with (first | (go_at_call 27; refine hlg.mono ?_; rintro e w2 ⟨rfl, rfl⟩) | (go_at_call 25; refine (hin _).mono ?_; rintro e w3 ⟨rfl, rfl⟩))
    go_ret
    exact ⟨rfl, hb1⟩
  · have hany : ([p].any fun s => decide (20000 < s.size)) = false := by simpa using h1
    rw [hany] at hlg
    by_cases h2 : n < 1
    · have hin := in_no n 1 100 (by omega)
      rw [if_pos (.inr (.inl h2))]
      go_enter Try.func18, Try.ntmps18
      go_wp2_with (first | (go_at_call 27; refine hlg.mono ?_; rintro e w2 ⟨rfl, rfl⟩) | (go_at_call 25; refine (hin _).mono ?_; rintro e w3 ⟨rfl, rfl⟩))
      go_ret
      exact ⟨rfl, hb1⟩
    · by_cases h3 : 100 < n
      · have hin := in_no n 1 100 (by omega)
        rw [if_pos (.inr (.inr h3))]
        go_enter Try.func18, Try.ntmps18
        go_wp2_with (first | (go_at_call 27; refine hlg.mono ?_; rintro e w2 ⟨rfl, rfl⟩) | (go_at_call 25; refine (hin _).mono ?_; rintro e w3 ⟨rfl, rfl⟩))
        go_ret
        exact ⟨rfl, hb1⟩
      · obtain ⟨N, rfl⟩ := Int.eq_ofNat_of_zero_le (show 0 ≤ n by omega)
        rw [if_neg (by omega), Int.toNat_natCast]
        have hm : ∀ k w, Calls Try.prog 16 #[.string p, .string (it p k)] w fun e w' => e = .returned (.string (it p (k + 1))) ∧ Below w.heap.size w w' := fun k w => by
          have hs := it_size p k
          have h := Mc.impl_ p (it p k) w hp (by omega)
          rw [M_mac _ _ (by omega) (by omega)] at h
          exact h
        exact implc p N (it p) w _ rfl hb1 (by omega) (by omega) (by omega) (Lib.hid rfl) hlg hm
end Sx
end Go.Proofs.Ytlcildmhcohpbaa
