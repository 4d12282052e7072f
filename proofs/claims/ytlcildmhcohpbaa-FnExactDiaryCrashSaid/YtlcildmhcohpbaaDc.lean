/-
  The walks of FnExactDiaryCrash and its callees.
-/
import Derived.Test.YtlcildmhcohpbaaRows
import Derived.WalkKit
import Derived.WalkSpells
import Derived.WalkLawsBesides
import Derived.Test.YtlcildmhcohpbaaBase
namespace Go.Proofs.Ytlcildmhcohpbaa
open Go.RowKit
set_option linter.unusedSimpArgs false
set_option linter.unusedVariables false

namespace Dc
theorem is3 (a l h : Int) (w : World) : Calls Try.prog 23 #[.int .i64 a, .int .i64 l, .int .i64 h] w fun e w' => e = .returned (.bool (decide (l ≤ a ∧ a ≤ h))) ∧ w = w' := by
  by_cases h1 : l ≤ a <;> by_cases h2 : a ≤ h
  all_goals
    go_enter Try.func23, Try.ntmps23
    go_wp2
    go_ret
    exact ⟨by simp [h1, h2], rfl⟩
theorem in3 (a l h : Int) (w : World) : Calls Try.prog 25 #[.int .i64 a, .int .i64 l, .int .i64 h] w fun e w' => e = .returned (.bool (decide (l ≤ a ∧ a ≤ h))) ∧ w = w' := by
  by_cases h1 : l ≤ a <;> by_cases h2 : a ≤ h
  all_goals
    go_enter Try.func25, Try.ntmps25
    go_wp2
    go_ret
    exact ⟨by simp [h1, h2], rfl⟩
theorem min_ (a b : Int) (w : World) : Calls Try.prog 24 #[.int .i64 a, .int .i64 b] w fun e w' => e = .returned (.int .i64 (if a < b then a else b)) ∧ w = w' := by
  by_cases h : a < b
  all_goals
    go_enter Try.func24, Try.ntmps24
    go_wp2
    go_ret
    exact ⟨by simp [h], rfl⟩


abbrev dv (s : ByteArray) (n : Int) : Value := .agg #[.string s, .int .i64 n]
/-- what DiaryCrash gives -/
def cut (s : ByteArray) (n k : Int) : Int := n + (if k ≤ 0 then 0 else if (s.size : Int) - n ≤ k then (s.size : Int) - n else k)
def crashS (s : ByteArray) (n k : Int) : ByteArray := if 0 ≤ n ∧ n ≤ s.size then s.extract 0 (cut s n k).toNat else s
def crashN (s : ByteArray) (n k : Int) : Int := if 0 ≤ n ∧ n ≤ s.size then cut s n k else n
theorem ret_dv {s s' : ByteArray} {n n' : Int} (hs : s = s') (hn : n = n') : Ending.returned (dv s n) = .returned (dv s' n') := by rw [hs, hn]
theorem crashN_in {s : ByteArray} {n k c : Int} (h : 0 ≤ n ∧ n ≤ s.size) (hc : cut s n k = c) : c = crashN s n k := by unfold crashN; rw [if_pos h]; exact hc.symm
theorem crashS_in {s : ByteArray} {n k c : Int} (h : 0 ≤ n ∧ n ≤ s.size) (hc : cut s n k = c) : s.extract 0 c.toNat = crashS s n k := by unfold crashS; rw [if_pos h, hc]
theorem crashN_out {s : ByteArray} {n k : Int} (h : ¬ (0 ≤ n ∧ n ≤ s.size)) : n = crashN s n k := by unfold crashN; rw [if_neg h]
theorem crashS_out {s : ByteArray} {n k : Int} (h : ¬ (0 ≤ n ∧ n ≤ s.size)) : s = crashS s n k := by unfold crashS; rw [if_neg h]

set_option maxHeartbeats 400000 in
theorem to_ (s : ByteArray) (n : Int) (w : World) : Calls Try.prog 10 #[dv s n] w fun e w' => e = .returned (dv s n) ∧ Below w.heap.size w w' := by
  go_enter Try.func10, Try.ntmps10
  go_wp2
  exact bodyPost_ret (v := dv s n) (by simp [results, Try.results10, go_sem]) rfl ⟨rfl, (((Below.refl _ _).alloc (Nat.le_refl _) _).alloc (by simp) _).alloc (by simp; omega) _⟩

set_option maxHeartbeats 400000 in
theorem sz_ (s : ByteArray) (n : Int) (w : World) (hs : s.size ≤ maxLen) : Calls Try.prog 8 #[dv s n, .int .i64 1048576] w fun e w' => e = .returned (.int .i64 (if 1048576 < s.size then -1 else 1048576 - s.size)) ∧ Below w.heap.size w w' := by
  unfold maxLen at hs
  by_cases h : 1048576 < s.size
  all_goals
    go_enter Try.func8, Try.ntmps8
    go_wp2
    go_ret
    exact ⟨by simp [h], (Below.refl _ _).alloc (Nat.le_refl _) _⟩

set_option maxHeartbeats 400000 in
theorem spec_ (s : ByteArray) (n k : Int) (w : World) (hs : s.size ≤ maxLen) (hn : -9223372036854775808 ≤ n ∧ n ≤ 9223372036854775807) (hk : -9223372036854775808 ≤ k ∧ k ≤ 9223372036854775807) :
    Calls Try.prog 9 #[dv s n, .int .i64 k] w fun e w' => e = .returned (dv (crashS s n k) (crashN s n k)) ∧ Below w.heap.size w w' := by
  unfold maxLen at hs
  by_cases h : 0 ≤ n ∧ n ≤ s.size
  · have hb : decide (0 ≤ n ∧ n ≤ (s.size : Int)) = true := by simpa using h
    obtain ⟨h0, h1⟩ := h
    by_cases h2 : 0 < k
    · by_cases h3 : k < (s.size : Int) - n
      · go_enter Try.func9, Try.ntmps9
        go_wp2_with (first | (go_at_call 23; refine (is3 _ _ _ _).mono ?_; rintro e w' ⟨rfl, rfl⟩) | (go_at_call 24; refine (min_ _ _ _).mono ?_; rintro e w' ⟨rfl, rfl⟩))
        have hc : cut s n k = n + k := by unfold cut; rw [if_neg (by omega), if_neg (by omega)]
        exact bodyPost_ret (v := dv (s.extract 0 (n + k).toNat) (n + k)) (by simp [results, Try.results9, go_sem]) rfl ⟨ret_dv (crashS_in ⟨h0, h1⟩ hc) (crashN_in ⟨h0, h1⟩ hc), ((Below.refl _ _).alloc (Nat.le_refl _) _).alloc (by simp) _⟩
      · go_enter Try.func9, Try.ntmps9
        go_wp2_with (first | (go_at_call 23; refine (is3 _ _ _ _).mono ?_; rintro e w' ⟨rfl, rfl⟩) | (go_at_call 24; refine (min_ _ _ _).mono ?_; rintro e w' ⟨rfl, rfl⟩))
        have hc : cut s n k = n + ((s.size : Int) - n) := by unfold cut; rw [if_neg (by omega), if_pos (by omega)]
        exact bodyPost_ret (v := dv (s.extract 0 (n + ((s.size : Int) - n)).toNat) (n + ((s.size : Int) - n))) (by simp [results, Try.results9, go_sem]) rfl ⟨ret_dv (crashS_in ⟨h0, h1⟩ hc) (crashN_in ⟨h0, h1⟩ hc), ((Below.refl _ _).alloc (Nat.le_refl _) _).alloc (by simp) _⟩
    · go_enter Try.func9, Try.ntmps9
      go_wp2_with (first | (go_at_call 23; refine (is3 _ _ _ _).mono ?_; rintro e w' ⟨rfl, rfl⟩) | (go_at_call 24; refine (min_ _ _ _).mono ?_; rintro e w' ⟨rfl, rfl⟩))
      have hc : cut s n k = n := by unfold cut; rw [if_pos (by omega)]; omega
      exact bodyPost_ret (v := dv (s.extract 0 n.toNat) n) (by simp [results, Try.results9, go_sem]) rfl ⟨ret_dv (crashS_in ⟨h0, h1⟩ hc) (crashN_in ⟨h0, h1⟩ hc), ((Below.refl _ _).alloc (Nat.le_refl _) _).alloc (by simp) _⟩
  · have hb : decide (0 ≤ n ∧ n ≤ (s.size : Int)) = false := by simpa using h
    go_enter Try.func9, Try.ntmps9
    go_wp2_with (first | (go_at_call 23; refine (is3 _ _ _ _).mono ?_; rintro e w' ⟨rfl, rfl⟩) | (go_at_call 24; refine (min_ _ _ _).mono ?_; rintro e w' ⟨rfl, rfl⟩))
    exact bodyPost_ret (v := dv s n) (by simp [results, Try.results9, go_sem]) rfl ⟨ret_dv (crashS_out h) (crashN_out h), ((Below.refl _ _).alloc (Nat.le_refl _) _).alloc (by simp) _⟩

set_option maxHeartbeats 400000 in
theorem impl_ (s : ByteArray) (n k : Int) (w : World) (hs : s.size ≤ maxLen) (hn : -9223372036854775808 ≤ n ∧ n ≤ 9223372036854775807) (hk : -9223372036854775808 ≤ k ∧ k ≤ 9223372036854775807) :
    Calls Try.prog 11 #[dv s n, .int .i64 k] w fun e w' => e = .returned (dv (crashS s n k) (crashN s n k)) ∧ Below w.heap.size w w' := by
  unfold maxLen at hs
  by_cases h : 0 ≤ n ∧ n ≤ s.size
  · have hb : decide (0 ≤ n ∧ n ≤ (s.size : Int)) = true := by simpa using h
    obtain ⟨h0, h1⟩ := h
    by_cases h2 : 0 < k
    · by_cases h3 : k < (s.size : Int) - n
      · go_enter Try.func11, Try.ntmps11
        go_wp2_with (first | (go_at_call 25; refine (in3 _ _ _ _).mono ?_; rintro e w' ⟨rfl, rfl⟩))
        have hc : cut s n k = n + k := by unfold cut; rw [if_neg (by omega), if_neg (by omega)]
        exact bodyPost_ret (v := dv (s.extract 0 (n + k).toNat) (n + k)) (by simp [results, Try.results11, go_sem]) rfl ⟨ret_dv (crashS_in ⟨h0, h1⟩ hc) (crashN_in ⟨h0, h1⟩ hc), ((Below.refl _ _).alloc (Nat.le_refl _) _).alloc (by simp) _⟩
      · by_cases h4 : (s.size : Int) - n < k
        · go_enter Try.func11, Try.ntmps11
          go_wp2_with (first | (go_at_call 25; refine (in3 _ _ _ _).mono ?_; rintro e w' ⟨rfl, rfl⟩))
          have hc : cut s n k = n + ((s.size : Int) - n) := by unfold cut; rw [if_neg (by omega), if_pos (by omega)]
          exact bodyPost_ret (v := dv (s.extract 0 (n + ((s.size : Int) - n)).toNat) (n + ((s.size : Int) - n))) (by simp [results, Try.results11, go_sem]) rfl ⟨ret_dv (crashS_in ⟨h0, h1⟩ hc) (crashN_in ⟨h0, h1⟩ hc), ((Below.refl _ _).alloc (Nat.le_refl _) _).alloc (by simp) _⟩
        · go_enter Try.func11, Try.ntmps11
          go_wp2_with (first | (go_at_call 25; refine (in3 _ _ _ _).mono ?_; rintro e w' ⟨rfl, rfl⟩))
          have hc : cut s n k = n + k := by unfold cut; rw [if_neg (by omega), if_pos (by omega)]; omega
          exact bodyPost_ret (v := dv (s.extract 0 (n + k).toNat) (n + k)) (by simp [results, Try.results11, go_sem]) rfl ⟨ret_dv (crashS_in ⟨h0, h1⟩ hc) (crashN_in ⟨h0, h1⟩ hc), ((Below.refl _ _).alloc (Nat.le_refl _) _).alloc (by simp) _⟩
    · by_cases h3 : k < 0
      · go_enter Try.func11, Try.ntmps11
        go_wp2_with (first | (go_at_call 25; refine (in3 _ _ _ _).mono ?_; rintro e w' ⟨rfl, rfl⟩))
        have hc : cut s n k = n + 0 := by unfold cut; rw [if_pos (by omega)]
        have hc' : n + 0 = n := by omega
        first
        | exact bodyPost_ret (v := dv (s.extract 0 (n + 0).toNat) (n + 0)) (by simp [results, Try.results11, go_sem]) rfl ⟨ret_dv (crashS_in ⟨h0, h1⟩ hc) (crashN_in ⟨h0, h1⟩ hc), ((Below.refl _ _).alloc (Nat.le_refl _) _).alloc (by simp) _⟩
        | (rw [hc'] at hc; exact bodyPost_ret (v := dv (s.extract 0 n.toNat) n) (by simp [results, Try.results11, go_sem]) rfl ⟨ret_dv (crashS_in ⟨h0, h1⟩ hc) (crashN_in ⟨h0, h1⟩ hc), ((Below.refl _ _).alloc (Nat.le_refl _) _).alloc (by simp) _⟩)
      · go_enter Try.func11, Try.ntmps11
        go_wp2_with (first | (go_at_call 25; refine (in3 _ _ _ _).mono ?_; rintro e w' ⟨rfl, rfl⟩))
        have hc : cut s n k = n + k := by unfold cut; rw [if_pos (by omega)]; omega
        exact bodyPost_ret (v := dv (s.extract 0 (n + k).toNat) (n + k)) (by simp [results, Try.results11, go_sem]) rfl ⟨ret_dv (crashS_in ⟨h0, h1⟩ hc) (crashN_in ⟨h0, h1⟩ hc), ((Below.refl _ _).alloc (Nat.le_refl _) _).alloc (by simp) _⟩
  · have hb : decide (0 ≤ n ∧ n ≤ (s.size : Int)) = false := by simpa using h
    go_enter Try.func11, Try.ntmps11
    go_wp2_with (first | (go_at_call 25; refine (in3 _ _ _ _).mono ?_; rintro e w' ⟨rfl, rfl⟩))
    exact bodyPost_ret (v := dv s n) (by simp [results, Try.results11, go_sem]) rfl ⟨ret_dv (crashS_out h) (crashN_out h), ((Below.refl _ _).alloc (Nat.le_refl _) _).alloc (by simp) _⟩

set_option maxHeartbeats 400000 in
theorem eq_ (s : ByteArray) (n : Int) (w : World) : Calls Try.prog 12 #[dv s n, dv s n] w fun e w' => e = .returned (.bool true) ∧ Below w.heap.size w w' := by
  go_enter Try.func12, Try.ntmps12
  go_wp2
  go_ret
  exact ⟨rfl, (((Below.refl _ _).alloc (Nat.le_refl _) _).alloc (by simp) _)⟩

set_option maxHeartbeats 1000000 in
theorem law_ (s : ByteArray) (n k : Int) (w : World) (hs : s.size ≤ maxLen) (hn : -9223372036854775808 ≤ n ∧ n ≤ 9223372036854775807) (hk : -9223372036854775808 ≤ k ∧ k ≤ 9223372036854775807) :
    Calls Try.prog 3 #[dv s n, .int .i64 k] w fun e w' => e = .returned (.bool true) ∧ Below w.heap.size w w' := by
  by_cases h : 1048576 < s.size
  · go_enter Try.func3, Try.ntmps3
    go_wp2_with fail
    refine (sz_ _ _ _ hs).mono ?_
    rw [if_pos h]
    rintro e w1 ⟨rfl, hb1⟩
    go_wp2
    go_ret
    exact ⟨rfl, ((Below.refl _ _).alloc (Nat.le_refl _) _).trans (hb1.mono (by simp))⟩
  · go_enter Try.func3, Try.ntmps3
    go_wp2_with fail
    refine (sz_ _ _ _ hs).mono ?_
    rw [if_neg h]
    rintro e w1 ⟨rfl, hb1⟩
    have hz1 : w.heap.size < w1.heap.size := by have := hb1.size; simp at this; omega
    have a0 := keep hb1 (by simp) (new0 w _ _ _)
    have a1 := keep hb1 (by simp) (new1 w _ _ _)
    have B1 : Below w.heap.size w w1 := ((Below.refl _ _).alloc (Nat.le_refl _) _).trans (hb1.mono (by simp))
    clear hb1
    go_wp2_with fail
    refine (to_ _ _ _).mono ?_
    rintro e w2 ⟨rfl, hb2⟩
    have hz2 : w.heap.size < w2.heap.size := by have := hb2.size; omega
    replace a0 := keep hb2 hz1 a0
    replace a1 := keep hb2 hz1 a1
    replace B1 := B1.trans (hb2.mono (by omega))
    clear hb2
    go_wp2_with fail
    refine (spec_ _ _ _ _ hs hn hk).mono ?_
    rintro e w3 ⟨rfl, hb3⟩
    have hz3 : w.heap.size < w3.heap.size := by have := hb3.size; omega
    replace a0 := keep hb3 hz2 a0
    replace a1 := keep hb3 hz2 a1
    replace B1 := B1.trans (hb3.mono (by omega))
    clear hb3
    go_wp2_with fail
    refine (to_ _ _ _).mono ?_
    rintro e w4 ⟨rfl, hb4⟩
    have hz4 : w3.heap.size < w4.heap.size := by have := hb4.size; simp at this; omega
    have d0 := keep hb4 (by simp) (new0 w3 _ _ _)
    have d1 := keep hb4 (by simp) (new1 w3 _ _ _)
    replace B1 := (B1.alloc (by omega) _).trans (hb4.mono (by simp; omega))
    clear hb4
    go_wp2_with fail
    refine (impl_ _ _ _ _ hs hn hk).mono ?_
    rintro e w5 ⟨rfl, hb5⟩
    have hz5 : w3.heap.size < w5.heap.size := by have := hb5.size; omega
    replace d0 := keep hb5 hz4 d0
    replace d1 := keep hb5 hz4 d1
    replace B1 := B1.trans (hb5.mono (by omega))
    clear hb5
    go_wp2_with fail
    refine (eq_ _ _ _).mono ?_
    rintro e w6 ⟨rfl, hb6⟩
    go_wp2
    go_ret
    exact ⟨rfl, (B1.alloc (by omega) _).trans (hb6.mono (by simp; omega))⟩
end Dc
end Go.Proofs.Ytlcildmhcohpbaa
