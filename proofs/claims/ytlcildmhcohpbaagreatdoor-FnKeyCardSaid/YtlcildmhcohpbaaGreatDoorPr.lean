/-
  The walk of the program's primes, at 64.
-/
import Derived.Test.YtlcildmhcohpbaaGreatDoorProg
import Derived.Test.YtlcildmhcohpbaaGreatDoorBase
import Derived.Test.YtlcildmhcohpbaaGreatDoorSha
import Derived.WalkKit
import Derived.WalkSpells
import Derived.WalkLawsBesides
import Derived.Deep.AppendLies
import Derived.Laws.OwnMore
namespace Go.Proofs.YtlcildmhcohpbaaGreatDoor
open Go.RowKit
set_option linter.unusedSimpArgs false
set_option linter.unusedVariables false
namespace Pr

def okp (k : Nat) (l : List Nat) : Bool := l.all fun p => k % p != 0
def P : Nat → List Nat
  | 0 => []
  | k + 1 => if k < 2 then [] else if okp k (P k) then P k ++ [k] else P k
theorem P312 : P 312 = Sha.primes64 := by decide +kernel
theorem P_pre1 (k : Nat) (h : 2 ≤ k) : P k <+: P (k + 1) := by
  rw [P, if_neg (by omega)]
  split
  · exact List.prefix_append _ _
  · exact List.prefix_refl _
theorem P_pre (k d : Nat) (h : 2 ≤ k) : P k <+: P (k + d) := by
  induction d with
  | zero => exact List.prefix_refl _
  | succ d ih => exact ih.trans (P_pre1 (k + d) (by omega))
theorem P_pre312 (k : Nat) (h : 2 ≤ k) (h2 : k ≤ 312) : P k <+: Sha.primes64 := by
  have := P_pre k (312 - k) h
  rwa [show k + (312 - k) = 312 from by omega, P312] at this
theorem P_len (k : Nat) (h : 2 ≤ k) (h2 : k ≤ 312) : (P k).length ≤ 64 := (P_pre312 k h h2).length_le
theorem P_full (k : Nat) (h : 2 ≤ k) (h2 : k ≤ 312) (h3 : 64 ≤ (P k).length) : P k = Sha.primes64 :=
  (P_pre312 k h h2).eq_of_length_le (by simpa [Sha.primes64] using h3)
theorem P_less (k : Nat) (h : 2 ≤ k) (h2 : k ≤ 312) (h3 : (P k).length < 64) : k < 312 := by
  rcases Nat.lt_or_ge k 312 with hlt | hge
  · exact hlt
  · have : k = 312 := by omega
    subst this
    rw [P312] at h3
    simp [Sha.primes64] at h3
theorem P_bd (k : Nat) : ∀ p ∈ P k, 2 ≤ p ∧ p < k := by
  induction k with
  | zero => intro p hp; simp [P] at hp
  | succ k ih =>
    intro p hp
    rw [P] at hp
    split at hp
    · simp at hp
    · split at hp
      · rcases List.mem_append.1 hp with hp | hp
        · have := ih p hp; omega
        · simp at hp; omega
      · have := ih p hp; omega
theorem okp_snoc (k : Nat) (l : List Nat) (p : Nat) : okp k (l ++ [p]) = (okp k l && (k % p != 0)) := by simp [okp]

theorem take_ok (k : Nat) {l : List Nat} {j p : Nat} (h : l[j]? = some p) : okp k (l.take (j + 1)) = (okp k (l.take j) && (k % p != 0)) := by
  rw [List.take_add_one, h]
  exact okp_snoc k _ p
theorem int_mod_ne (k p : Nat) : ((k : Int) % (p : Int) != 0) = (k % p != 0) := by
  rw [← Int.natCast_emod]
  by_cases h : k % p = 0
  · rw [h]; rfl
  · have h' : ((k % p : Nat) : Int) ≠ 0 := by omega
    rw [bne_iff_ne.2 h', bne_iff_ne.2 h]
theorem P_no (k : Nat) (h : 2 ≤ k) (ho : okp k (P k) = false) : P (k + 1) = P k := by rw [P, if_neg (by omega), if_neg (by simp [ho])]
theorem P_yes (k : Nat) (h : 2 ≤ k) (ho : okp k (P k) = true) : P (k + 1) = P k ++ [k] := by rw [P, if_neg (by omega), if_pos ho]
abbrev iv (l : List Nat) : List Value := l.map fun p : Nat => Value.int .i64 (p : Int)

theorem info_int : (Tryz.prog.info? 3).map (fun i => (i.zero, i.size, i.bytes)) = some (some (.int .i64 0), 1, 8) := by kernel_rfl


set_option maxHeartbeats 1000000 in
set_option maxRecDepth 100000 in
theorem primes_ (w : World) : Calls Tryz.prog 53 #[.int .i64 64] w fun e w' => ∃ g cap, e = .returned (.slice (some ⟨g, 0, none⟩) 64 cap) ∧
    (∀ j, j < 64 → w'.cell? ⟨g, j, none⟩ = some (.int .i64 (Sha.primes64.getD j 0 : Nat))) ∧ w.heap.size ≤ g ∧ Below w.heap.size w w' := by
  obtain ⟨i0, hi, hz0, hz1, hz2⟩ := info_parts info_int
  go_enter Tryz.func53, Tryz.ntmps53
  go_wp2
  go_loopw [3, 4] (fun v n wr => ∃ (k : Nat) (g cap : Nat), 2 ≤ k ∧ k ≤ 312 ∧ n = .int .i64 (k : Int) ∧ v = .slice (some ⟨g, 0, none⟩) (P k).length cap ∧
      wr.ownsRow w.heap.size 3 1 (.slice (some ⟨g, 0, none⟩) (P k).length cap) (P k).length (iv (P k)) ∧ Below w.heap.size w wr)
    (fun _ n _ => 312 - (intOf n).toNat)
  case atStart =>
    exact ⟨2, w.heap.size, 0, by omega, by omega, rfl, rfl, World.ownsRow_made w #[] 0 (Nat.le_refl _) (by simp [maxLen]) rfl, (Below.refl _ _).alloc (Nat.le_refl _) _⟩
  case round =>
    obtain ⟨k, g, cap, hk2, hk, rfl, rfl, hown, hb⟩ := hrel
    have hlen := P_len k hk2 hk
    by_cases hlt : (P k).length < 64
    · have hk' := P_less k hk2 hk hlt
      go_wp2
      go_loop [5, 17] (fun b i => ∃ j : Nat, j ≤ (P k).length ∧ i = .int .i64 j ∧ b = .bool (okp k ((P k).take j))) (fun _ i => (P k).length - (intOf i).toNat)
      case atStart => exact ⟨0, Nat.zero_le _, rfl, rfl⟩
      case round =>
        obtain ⟨j, hj, rfl, rfl⟩ := hrel
        by_cases hjl : j < (P k).length
        · obtain ⟨p, hp, hpb⟩ : ∃ p, (P k)[j]? = some p ∧ 2 ≤ p ∧ p < k := ⟨_, List.getElem?_eq_getElem hjl, P_bd k _ (List.getElem_mem hjl)⟩
          have hcell : wr.cell? ⟨g, j, none⟩ = some (.int .i64 (p : Int)) := by
            rw [hown.cellAt j (by omega)]; simp [iv, hp]
          have HN := Lib.hid (take_ok k hp)
          clear hp
          obtain ⟨hp1, hp2⟩ := hpb
          generalize okp k ((P k).take j) = b at *
          cases b
          · go_wp2
            go_round
            case rel => exact ⟨j + 1, by omega, by go_num, by rw [HN.out]; rfl⟩
            case measure => simp [intOf]; omega
          · go_wp2
            go_round
            case rel => exact ⟨j + 1, by omega, by go_num, by rw [HN.out, Bool.true_and, int_mod_ne]⟩
            case measure => simp [intOf]; omega
        · obtain rfl : j = (P k).length := by omega
          rw [List.take_length]
          cases hok : okp k (P k)
          · have HS := Lib.hid (P_no k hk2 hok)
            clear hok
            go_wp2
            go_roundw
            case rel => exact ⟨k + 1, g, cap, by omega, by omega, by go_num, by rw [HS.out], by rw [HS.out]; exact hown, hb⟩
            case measure => simp [intOf]; omega
          · have HS := Lib.hid (P_yes k hk2 hok)
            clear hok
            have c3 : (P k).length + 1 ≤ maxLen := by simp only [maxLen]; omega
            have c4 : ((P k).length + 1) * 8 ≤ 140737488355328 := by omega
            have c5 : w.heap.size ≤ (wr.alloc (.cells #[.int .i64 (k : Int)] 3)).heap.size := by have := hb.size; simp; omega
            go_wp2_with (at_builtin; refine wpList_append_own _ rfl (.tmp 30) (.tmp 32) 73 rfl w.heap.size 3 i0 (.int .i64 0) 1 8 Tryz.underlying73 hi hz0 hz1 hz2 rfl (by decide) _ _ _ rfl (hown.alloc _) ⟨wr.heap.size, 0, none⟩ 1 1 [.int .i64 (k : Int)] rfl rfl (one_new _ _ _) (one_cell _ _) c3 c4 c5 ?_)
            intro v' w1 hown' hgrow _
            obtain ⟨g', cap', rfl, hg', _⟩ := hown'.form (by omega)
            have hb' : Below w.heap.size w w1 := (hb.alloc hb.size _).grown hgrow (by have := hb.size; simp; omega) (fun i hi => by
              have hle := ownsRow_ge hown
              simp [Value.ownBlock] at hi
              omega)
            go_wp2
            go_roundw
            case rel => exact ⟨k + 1, g', cap', by omega, by omega, by go_num, by rw [HS.out, List.length_append]; rfl, by rw [HS.out, List.length_append]; simpa [iv] using hown', hb'⟩
            case measure => simp [intOf]; omega
    · have hfull := P_full k hk2 hk (by omega)
      have HF := Lib.hid hfull
      clear hfull
      go_wp2
      go_ret
      have h64 : (P k).length = 64 := by omega
      rw [h64] at hown
      refine ⟨g, cap, by rw [← h64]; rfl, fun j hj => ?_, ?_, hb⟩
      · rw [hown.cellAt j (by omega), HF.out]
        simp [iv, List.getElem?_eq_getElem (show j < Sha.primes64.length from hj)]
      · obtain ⟨g', cap', e, hle, _⟩ := hown.form (by omega)
        simp at e
        omega
end Pr
end Go.Proofs.YtlcildmhcohpbaaGreatDoor
