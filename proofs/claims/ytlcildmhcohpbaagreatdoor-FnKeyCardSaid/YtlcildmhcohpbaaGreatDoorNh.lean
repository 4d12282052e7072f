/-
  The walk of the program's newHash: a new block of 72 cells: the eight words of the start and the 64 keys.
-/
import Derived.Test.YtlcildmhcohpbaaGreatDoorProg
import Derived.Test.YtlcildmhcohpbaaGreatDoorBase
import Derived.Test.YtlcildmhcohpbaaGreatDoorSha
import Derived.Test.YtlcildmhcohpbaaGreatDoorFl
import Derived.Test.YtlcildmhcohpbaaGreatDoorPr
import Derived.WalkKit
import Derived.WalkSpells
import Derived.WalkLawsBesides
import Derived.StillTailTactics
import Derived.Deep.OwnRows
namespace Go.Proofs.YtlcildmhcohpbaaGreatDoor
open Go.RowKit
set_option linter.unusedSimpArgs false
set_option linter.unusedVariables false
namespace Nh

theorem bind_some' {α β : Type} {o : Option α} {f : α → Option β} {r : β} (h : o.bind f = some r) : ∃ a, o = some a ∧ f a = some r := Option.bind_eq_some_iff.1 h
theorem key_at (i : Nat) (hi : i < 64) : ∃ c, Sha.cbrt (Sha.ofNat (Sha.primes64.getD i 0)) = some c ∧ Sha.frac c = some (Sha.keysL.getD i 0) := by
  have h := congrArg (fun l => l[i]?) Sha.keys_eq
  simp only [List.getElem?_map] at h
  rw [List.getElem?_eq_getElem (show i < Sha.primes64.length from hi), List.getElem?_eq_getElem (show i < Sha.keysL.length from hi)] at h
  simp only [Option.map_some, Option.some.injEq] at h
  have h1 : Sha.primes64.getD i 0 = Sha.primes64[i]'hi := by rw [List.getD_eq_getElem?_getD, List.getElem?_eq_getElem (show i < Sha.primes64.length from hi)]; rfl
  have h2 : Sha.keysL.getD i 0 = Sha.keysL[i]'hi := by rw [List.getD_eq_getElem?_getD, List.getElem?_eq_getElem (show i < Sha.keysL.length from hi)]; rfl
  rw [h1, h2]
  exact bind_some' h
theorem start_at (i : Nat) (hi : i < 8) : ∃ c, Sha.fsqrt (Sha.ofNat (Sha.primes64.getD i 0)) = some c ∧ Sha.frac c = some (Sha.startL.getD i 0) := by
  have h := congrArg (fun l => l[i]?) Sha.start_eq
  simp only [List.getElem?_map, List.getElem?_take, if_pos hi] at h
  rw [List.getElem?_eq_getElem (show i < Sha.primes64.length from Nat.lt_of_lt_of_le hi (by decide)), List.getElem?_eq_getElem (show i < Sha.startL.length from hi)] at h
  simp only [Option.map_some, Option.some.injEq] at h
  have h1 : Sha.primes64.getD i 0 = Sha.primes64[i]'(Nat.lt_of_lt_of_le hi (by decide)) := by rw [List.getD_eq_getElem?_getD, List.getElem?_eq_getElem (show i < Sha.primes64.length from Nat.lt_of_lt_of_le hi (by decide))]; rfl
  have h2 : Sha.startL.getD i 0 = Sha.startL[i]'hi := by rw [List.getD_eq_getElem?_getD, List.getElem?_eq_getElem (show i < Sha.startL.length from hi)]; rfl
  rw [h1, h2]
  exact bind_some' h

/-- The hash's cells when i rounds are done. -/
def F (i : Nat) : Nat → Value := fun j => .int .u32 (if j < 8 then (if j < i then Sha.startL.getD j 0 else 0) else if j - 8 < i then Sha.keysL.getD (j - 8) 0 else 0)
theorem F_start (i : Nat) (hi : i < 8) : (fun j => if j = 8 + i then Value.int .u32 (Sha.keysL.getD i 0) else if j = i then .int .u32 (Sha.startL.getD i 0) else F i j) = F (i + 1) := by
  funext j
  unfold F
  by_cases h1 : j = 8 + i
  · subst h1
    rw [if_pos rfl, if_neg (by omega), if_pos (by omega), show 8 + i - 8 = i from by omega]
  · rw [if_neg h1]
    by_cases h2 : j = i
    · subst h2
      rw [if_pos rfl, if_pos hi, if_pos (by omega)]
    · rw [if_neg h2]
      by_cases h3 : j < 8
      · rw [if_pos h3, if_pos h3]
        by_cases h4 : j < i
        · rw [if_pos h4, if_pos (by omega)]
        · rw [if_neg h4, if_neg (by omega)]
      · rw [if_neg h3, if_neg h3]
        by_cases h4 : j - 8 < i
        · rw [if_pos h4, if_pos (by omega)]
        · rw [if_neg h4, if_neg (by omega)]
theorem F_key (i : Nat) (hi : ¬ i < 8) : (fun j => if j = 8 + i then Value.int .u32 (Sha.keysL.getD i 0) else F i j) = F (i + 1) := by
  funext j
  unfold F
  by_cases h1 : j = 8 + i
  · subst h1
    rw [if_pos rfl, if_neg (by omega), if_pos (by omega), show 8 + i - 8 = i from by omega]
  · rw [if_neg h1]
    by_cases h3 : j < 8
    · rw [if_pos h3, if_pos h3, if_pos (by omega), if_pos (by omega)]
    · rw [if_neg h3, if_neg h3]
      by_cases h4 : j - 8 < i
      · rw [if_pos h4, if_pos (by omega)]
      · rw [if_neg h4, if_neg (by omega)]


theorem rep_at (n : Nat) (x : Value) (i : Nat) (hi : i < n) : (List.replicate n x).toArray[i]? = some x := by simp [hi]

set_option maxHeartbeats 1000000 in
set_option maxRecDepth 100000 in
theorem newHash_ (w : World) : Calls Tryz.prog 45 #[] w fun e w' => e = .returned (.pointer (some ⟨w.heap.size, 0, none⟩)) ∧ w'.rowIs w.heap.size 72 72 (F 64) ∧ Below w.heap.size w w' := by
  go_enter Tryz.func45, Tryz.ntmps45
  go_wp2_with fail
  refine (Pr.primes_ _).mono ?_
  rintro e w1 ⟨g, cap, rfl, hc, hg, hb⟩
  have hH : w.heap.size < w1.heap.size := by have := hb.size; simp at this; omega
  have hgH : w.heap.size < g := by simp at hg; omega
  have hz : Tryz.zeroCells72 = (List.replicate 72 (Value.int .u32 0)).toArray := by kernel_rfl
  have hrow : w1.rowIs w.heap.size 72 72 (F 0) := by
    have h0 : (w.alloc (.cells Tryz.zeroCells72 72)).rowIs w.heap.size 72 72 (F 0) := by
      have := World.rowIs_alloc w (List.replicate 72 (Value.int .u32 0)).toArray 72 (F 0) (fun i hi => by
        have hi' : i < 72 := by rw [List.size_toArray, List.length_replicate] at hi; exact hi
        rw [rep_at 72 _ i hi']; simp [F, hi'])
      rw [hz]
      exact this
    exact h0.of_block (hb.block _ (by simp))
  have hB : Below w.heap.size w w1 := ((Below.refl _ _).alloc (Nat.le_refl _) _).trans (hb.mono (by simp))
  clear hb hg hz
  go_wp2_with fail
  go_loopw [8] (fun i wr => ∃ n : Nat, n ≤ 64 ∧ i = .int .i64 n ∧ wr.rowIs w.heap.size 72 72 (F n) ∧ (∀ j, j < 64 → wr.cell? ⟨g, j, none⟩ = some (.int .i64 (Sha.primes64.getD j 0 : Nat))) ∧ Below w.heap.size w wr)
    (fun i _ => 64 - (intOf i).toNat)
  case atStart => exact ⟨0, Nat.zero_le _, rfl, hrow, hc, hB⟩
  case round =>
    clear hrow hc hB
    obtain ⟨n, hn, rfl, hrow, hc, hB⟩ := hrel
    by_cases hlt : n < 64
    · have hp := hc n hlt
      obtain ⟨k, hk1, hk2⟩ := key_at n hlt
      by_cases h8 : n < 8
      · obtain ⟨s, hs1, hs2⟩ := start_at n h8
        have HC := Lib.hid hc
        clear hc
        have HP := Lib.hid hk1
        generalize Sha.primes64.getD n 0 = p at hp hk1 hs1
        have HF := Lib.hid (F_start n h8)
        have z1 := hrow.frozen n
        have z2 := hrow.frozen (8 + n)
        have d1 := hrow.cell (i := n) (by omega)
        have d2 := hrow.cell (i := 8 + n) (by omega)
        generalize Sha.startL.getD n 0 = sn at *
        generalize Sha.keysL.getD n 0 = kn at *
        go_wp2
        go_still_tail 9, (by kernel_rfl)
        still_call (still_of (Fl.sqrt_ hs1 _))
        still_call (still_of (Fl.frac_ hs2 _))
        repeat still_step
        refine wpStill_nil ?_
        change wpList _ _ _ _ _ wr.drew
        go_wp2
        go_still_tail 9, (by kernel_rfl)
        still_call (still_of (Fl.cbrt_ hk1 _))
        still_call (still_of (Fl.frac_ hk2 _))
        repeat still_step
        refine wpStill_nil ?_
        change wpList _ _ _ _ _ (World.drew _)
        go_wp2
        go_roundw
        case rel =>
          refine ⟨n + 1, by omega, by go_num, ?_, fun j hj => ?_, (((hB.setCell (Nat.le_refl _) _).setCell (Nat.le_refl _) _).drew).drew⟩
          · have h := ((((hrow.set n (.int .u32 sn)).set (8 + n) (.int .u32 kn)).drew).drew)
            rw [HF.out] at h
            exact h
          · show ((wr.setCell _ _).setCell _ _).cell? _ = _
            rw [cell_far _ (by simp; omega), cell_far _ (by simp; omega)]
            exact HC.out j hj
        case measure => simp [intOf]; omega
      · have HC := Lib.hid hc
        clear hc
        generalize Sha.primes64.getD n 0 = p at hp hk1
        have HF := Lib.hid (F_key n h8)
        have z2 := hrow.frozen (8 + n)
        have d2 := hrow.cell (i := 8 + n) (by omega)
        generalize Sha.keysL.getD n 0 = kn at *
        go_wp2
        go_still_tail 9, (by kernel_rfl)
        still_call (still_of (Fl.cbrt_ hk1 _))
        still_call (still_of (Fl.frac_ hk2 _))
        repeat still_step
        refine wpStill_nil ?_
        change wpList _ _ _ _ _ (World.drew _)
        go_wp2
        go_roundw
        case rel =>
          refine ⟨n + 1, by omega, by go_num, ?_, fun j hj => ?_, ((hB.setCell (Nat.le_refl _) _).drew)⟩
          · have h := ((hrow.set (8 + n) (.int .u32 kn)).drew)
            rw [HF.out] at h
            exact h
          · show (wr.setCell _ _).cell? _ = _
            rw [cell_far _ (by simp; omega)]
            exact HC.out j hj
        case measure => simp [intOf]; omega
    · obtain rfl : n = 64 := by omega
      go_wp2
      go_ret
      exact ⟨rfl, hrow, hB⟩
end Nh
end Go.Proofs.YtlcildmhcohpbaaGreatDoor
