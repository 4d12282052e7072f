/-
  impl.long, and the two Digest.
-/
import Derived.Test.YtlcildmhcohpbaaGreatDoorAl
namespace Go.Proofs.YtlcildmhcohpbaaGreatDoor
open Go.RowKit
set_option linter.unusedSimpArgs false
set_option linter.unusedVariables false
namespace Dx
set_option maxHeartbeats 1000000 in
set_option maxRecDepth 100000 in
theorem long_ (ss : List ByteArray) (g n cap : Nat) (w : World) (hn : ss.length = n) (hs : n < 1000) (hl : ∀ s ∈ ss, s.size ≤ 2000000)
    (hc : ∀ j, j < n → w.cell? ⟨g, j, none⟩ = some (.string (ss.getD j ByteArray.empty))) :
    Calls Tryz.prog 25 #[.slice (some ⟨g, 0, none⟩) n cap] w fun e w' => e = .returned (.bool (ss.any fun s => decide (20000 < s.size))) ∧ w = w' := by
  go_enter Tryz.func25, Tryz.ntmps25
  go_wp2
  have HC := Lib.hid hc
  have HL := Lib.hid hl
  clear hc hl
  go_loopw [4, 7] (fun _ i wr => ∃ m : Nat, m ≤ n ∧ i = .int .i64 (m : Int) ∧ wr = w ∧ (ss.take m).any (fun s => decide (20000 < s.size)) = false)
    (fun _ i _ => n - (intOf i).toNat)
  case atStart => exact ⟨0, Nat.zero_le _, rfl, rfl, rfl⟩
  case round =>
    obtain ⟨m, hm, rfl, rfl, hno⟩ := hrel
    by_cases hlt : m < n
    · have hcm := HC.out m hlt
      have hmem : ss.getD m ByteArray.empty ∈ ss := by
        rw [List.getD_eq_getElem?_getD, List.getElem?_eq_getElem (by omega)]
        exact List.getElem_mem _
      have hsz := HL.out _ hmem
      have HT : Hid ((ss.take (m + 1)).any (fun s => decide (20000 < s.size)) = decide (20000 < (ss.getD m ByteArray.empty).size)) := Lib.hid (by
        rw [List.take_add_one, List.any_append, hno, List.getD_eq_getElem?_getD, List.getElem?_eq_getElem (by omega)]
        simp)
      have HM := Lib.hid hmem
      clear hmem hno
      generalize ss.getD m ByteArray.empty = t at *
      by_cases hbig : 20000 < t.size
      · have hbI : (20000 : Int) < (t.size : Int) := by omega
        go_wp2
        go_ret
        refine ⟨ret_bool ?_, rfl⟩
        exact (List.any_eq_true.2 ⟨t, HM.out, by simpa using hbig⟩).symm
      · have hbI : ¬ (20000 : Int) < (t.size : Int) := by omega
        have HF : Hid ((ss.take (m + 1)).any (fun s => decide (20000 < s.size)) = false) := Lib.hid (by rw [HT.out]; simpa using hbig)
        go_wp2
        go_roundw
        case rel => exact ⟨m + 1, hlt, by go_num, trivial, HF.out⟩
        case measure => simp [intOf]; omega
    · have HF : Hid ((ss.take m).any (fun s => decide (20000 < s.size)) = false) := Lib.hid hno
      have hmn : m = n := by omega
      have hnI : ¬ (m : Int) < n := by omega
      clear hno
      go_wp2
      go_ret
      refine ⟨ret_bool ?_, rfl⟩
      have := HF.out
      rw [hmn, ← hn, List.take_length] at this
      exact this.symm
/-- what Digest answers -/
def D (s : ByteArray) : ByteArray := if 20000 < s.size then ByteArray.empty else Pd.digest s
set_option maxHeartbeats 1000000 in
theorem impl_ (s : ByteArray) (w : World) (hs : s.size ≤ 2000000) : Calls Tryz.prog 23 #[.string s] w fun e w' => e = .returned (.string (D s)) ∧ Below w.heap.size w w' := by
  have hl : ∀ t ∈ [s], t.size ≤ 2000000 := fun t ht => by simp at ht; subst ht; exact hs
  have hc : ∀ j, j < 1 → (w.alloc (.cells #[.string s] 9)).cell? ⟨w.heap.size, j, none⟩ = some (.string ([s].getD j ByteArray.empty)) := fun j hj => by
    obtain rfl : j = 0 := by omega
    go_simp
  have hlg := long_ [s] w.heap.size 1 1 (w.alloc (.cells #[.string s] 9)) rfl (by decide) hl hc
  clear hl hc
  have hb1 : Below w.heap.size w (w.alloc (.cells #[.string s] 9)) := (Below.refl _ _).alloc (Nat.le_refl _) _
  unfold D
  by_cases h : 20000 < s.size
  · have hany : ([s].any fun s => decide (20000 < s.size)) = true := by simpa using h
    rw [hany] at hlg
    rw [if_pos h]
    go_enter Tryz.func23, Tryz.ntmps23
    go_wp2_with (go_at_call 25; refine hlg.mono ?_; rintro e w2 ⟨rfl, rfl⟩)
    go_ret
    exact ⟨rfl, hb1⟩
  · have hany : ([s].any fun s => decide (20000 < s.size)) = false := by simpa using h
    have hs2 : s.size ≤ 1000000 := by omega
    rw [hany] at hlg
    rw [if_neg h]
    clear h hany
    go_enter Tryz.func23, Tryz.ntmps23
    go_wp2_with (first | (go_at_call 25; refine hlg.mono ?_; rintro e w2 ⟨rfl, rfl⟩) | (go_at_call 36; refine (Dg.digest_ s _ hs2).mono ?_; rintro e w3 ⟨rfl, hb3⟩))
    go_ret
    exact ⟨rfl, hb1.trans (hb3.mono hb1.size)⟩
end Dx
end Go.Proofs.YtlcildmhcohpbaaGreatDoor
