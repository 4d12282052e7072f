/-
  The two Mac, and the two Stretch.
-/
import Derived.Test.YtlcildmhcohpbaaGreatDoorPw
namespace Go.Proofs.YtlcildmhcohpbaaGreatDoor
open Go.RowKit
set_option linter.unusedSimpArgs false
set_option linter.unusedVariables false
namespace Mc
def key (k : ByteArray) : ByteArray := if 64 < k.size then Pd.digest k else k
theorem key_size (k : ByteArray) : (key k).size ≤ 64 := by
  unfold key
  split
  · rw [Pd.digest_size]; omega
  · omega
def mac0 (k t : ByteArray) : ByteArray := Pd.digest (Pw.px k 92 ++ Pd.digest (Pw.px k 54 ++ t))
def mac (k t : ByteArray) : ByteArray := mac0 (key k) t
theorem mac_size (k t : ByteArray) : (mac k t).size = 32 := Pd.digest_size _
def M (k t : ByteArray) : ByteArray := if 20000 < k.size ∨ 20000 < t.size then ByteArray.empty else mac k t
set_option maxHeartbeats 2000000 in
theorem l02c (k t : ByteArray) (px : Int → ByteArray) (dg : ByteArray → ByteArray) (w : World) (hk : k.size ≤ 1000000) (k2 : ByteArray) (hkk : Hid (k2 = if 64 < k.size then dg k else k)) (h1 : (px 54 ++ t).size ≤ 1000000) (h2 : (px 92 ++ dg (px 54 ++ t)).size ≤ 1000000)
    (hp : ∀ x w, Calls Tryz.prog 32 #[.string k2, .int .u8 x] w fun e w' => e = .returned (.string (px x)) ∧ Below w.heap.size w w')
    (hd : ∀ s w, s.size ≤ 1000000 → Calls Tryz.prog 16 #[.string s] w fun e w' => e = .returned (.string (dg s)) ∧ Below w.heap.size w w') :
    Calls Tryz.prog 15 #[.string k, .string t] w fun e w' => e = .returned (.string (dg (px 92 ++ dg (px 54 ++ t)))) ∧ Below w.heap.size w w' := by
  have g1 := h1
  have g2 := h2
  rw [ByteArray.size_append] at g1 g2
  have hB : Below w.heap.size w w := Below.refl _ _
  by_cases h : 64 < k.size
  · have hI : (64 : Int) < (k.size : Int) := by omega
    have HK2 : dg k = k2 := by rw [hkk.out, if_pos h]
    subst HK2
    clear h hkk
    go_enter Tryz.func15, Tryz.ntmps15
    go_wp2_with (first | (go_at_call 32; refine (hp _ _).mono ?_; rintro e w' ⟨rfl, hb'⟩; replace hB := Below.trans hB (Below.mono hb' hB.size); clear hb') | (go_at_call 16; refine (hd _ _ (by assumption)).mono ?_; rintro e w' ⟨rfl, hb'⟩; replace hB := Below.trans hB (Below.mono hb' hB.size); clear hb'))
    go_ret
    exact ⟨rfl, hB⟩
  · have hI : ¬ (64 : Int) < (k.size : Int) := by omega
    have HK2 : k2 = k := by rw [hkk.out, if_neg h]
    clear h hkk
    subst HK2
    go_enter Tryz.func15, Tryz.ntmps15
    go_wp2_with (first | (go_at_call 32; refine (hp _ _).mono ?_; rintro e w' ⟨rfl, hb'⟩; replace hB := Below.trans hB (Below.mono hb' hB.size); clear hb') | (go_at_call 16; refine (hd _ _ (by assumption)).mono ?_; rintro e w' ⟨rfl, hb'⟩; replace hB := Below.trans hB (Below.mono hb' hB.size); clear hb'))
    go_ret
    exact ⟨rfl, hB⟩
theorem sizes (k t : ByteArray) (ht : t.size ≤ 900000) : (Pw.px (key k) 54 ++ t).size ≤ 1000000 ∧ (Pw.px (key k) 92 ++ Pd.digest (Pw.px (key k) 54 ++ t)).size ≤ 1000000 := by
  rw [ByteArray.size_append, ByteArray.size_append, Pw.px_size, Pw.px_size, Pd.digest_size]
  omega
theorem l02_ (k t : ByteArray) (w : World) (hk : k.size ≤ 1000000) (ht : t.size ≤ 900000) : Calls Tryz.prog 15 #[.string k, .string t] w fun e w' => e = .returned (.string (mac k t)) ∧ Below w.heap.size w w' :=
  l02c k t (Pw.px (key k)) Pd.digest w hk (key k) (Lib.hid rfl) (sizes k t ht).1 (sizes k t ht).2 (fun x w => Pw.pad_ (key k) x w (key_size k)) (fun s w hs => Al.all_ s w hs)
set_option maxHeartbeats 2000000 in
theorem implc (k t : ByteArray) (px : Int → ByteArray) (dg : ByteArray → ByteArray) (w w1 : World) (hw1 : w.alloc (.cells #[.string k, .string t] 9) = w1) (hb1 : Below w.heap.size w w1) (hk : k.size ≤ 1000000) (k2 : ByteArray) (hkk : Hid (k2 = if 64 < k.size then dg k else k)) (h1 : (px 54 ++ t).size ≤ 1000000) (h2 : (px 92 ++ dg (px 54 ++ t)).size ≤ 1000000)
    (hlg : Calls Tryz.prog 25 #[.slice (some ⟨w.heap.size, 0, none⟩) 2 2] w1 fun e w' => e = .returned (.bool false) ∧ w1 = w')
    (hp : ∀ x w, Calls Tryz.prog 37 #[.string k2, .int .u8 x] w fun e w' => e = .returned (.string (px x)) ∧ Below w.heap.size w w')
    (hd : ∀ s w, s.size ≤ 1000000 → Calls Tryz.prog 36 #[.string s] w fun e w' => e = .returned (.string (dg s)) ∧ Below w.heap.size w w') :
    Calls Tryz.prog 22 #[.string k, .string t] w fun e w' => e = .returned (.string (dg (px 92 ++ dg (px 54 ++ t)))) ∧ Below w.heap.size w w' := by
  have g1 := h1
  have g2 := h2
  rw [ByteArray.size_append] at g1 g2
  have hB := hb1
  clear hb1
  subst hw1
  by_cases h : 64 < k.size
  · have hI : (64 : Int) < (k.size : Int) := by omega
    have HK2 : dg k = k2 := by rw [hkk.out, if_pos h]
    subst HK2
    clear h hkk
    go_enter Tryz.func22, Tryz.ntmps22
    go_wp2_with (first | (go_at_call 25; refine hlg.mono ?_; rintro e w2 ⟨rfl, rfl⟩) | (go_at_call 37; refine (hp _ _).mono ?_; rintro e w' ⟨rfl, hb'⟩; replace hB := Below.trans hB (Below.mono hb' hB.size); clear hb') | (go_at_call 36; refine (hd _ _ (by assumption)).mono ?_; rintro e w' ⟨rfl, hb'⟩; replace hB := Below.trans hB (Below.mono hb' hB.size); clear hb'))
    go_ret
    exact ⟨rfl, hB⟩
  · have hI : ¬ (64 : Int) < (k.size : Int) := by omega
    have HK2 : k2 = k := by rw [hkk.out, if_neg h]
    clear h hkk
    subst HK2
    go_enter Tryz.func22, Tryz.ntmps22
    go_wp2_with (first | (go_at_call 25; refine hlg.mono ?_; rintro e w2 ⟨rfl, rfl⟩) | (go_at_call 37; refine (hp _ _).mono ?_; rintro e w' ⟨rfl, hb'⟩; replace hB := Below.trans hB (Below.mono hb' hB.size); clear hb') | (go_at_call 36; refine (hd _ _ (by assumption)).mono ?_; rintro e w' ⟨rfl, hb'⟩; replace hB := Below.trans hB (Below.mono hb' hB.size); clear hb'))
    go_ret
    exact ⟨rfl, hB⟩
theorem two_cells (k t : ByteArray) (w : World) (T : TypeId) : ∀ j, j < 2 → (w.alloc (.cells #[.string k, .string t] T)).cell? ⟨w.heap.size, j, none⟩ = some (.string ([k, t].getD j ByteArray.empty)) := fun j hj =>
  match j, hj with
  | 0, _ => new0 w _ _ T
  | 1, _ => new1 w _ _ T
set_option maxHeartbeats 2000000 in
theorem impl_ (k t : ByteArray) (w : World) (hks : k.size ≤ 2000000) (hts : t.size ≤ 2000000) : Calls Tryz.prog 22 #[.string k, .string t] w fun e w' => e = .returned (.string (M k t)) ∧ Below w.heap.size w w' := by
  have hlg := Dx.long_ [k, t] w.heap.size 2 2 (w.alloc (.cells #[.string k, .string t] 9)) rfl (by decide) (fun x hx => by simp at hx; rcases hx with rfl | rfl <;> assumption) (two_cells k t w _)
  have hb1 : Below w.heap.size w (w.alloc (.cells #[.string k, .string t] 9)) := (Below.refl _ _).alloc (Nat.le_refl _) _
  unfold M
  by_cases h : 20000 < k.size ∨ 20000 < t.size
  · have hany : ([k, t].any fun s => decide (20000 < s.size)) = true := by simpa using h
    rw [hany] at hlg
    rw [if_pos h]
    go_enter Tryz.func22, Tryz.ntmps22
    go_wp2_with (go_at_call 25; refine hlg.mono ?_; rintro e w2 ⟨rfl, rfl⟩)
    go_ret
    exact ⟨rfl, hb1⟩
  · have hany : ([k, t].any fun s => decide (20000 < s.size)) = false := by simp; omega
    rw [hany] at hlg
    rw [if_neg h]
    have hs := sizes k t (by omega)
    exact implc k t (Pw.px (key k)) Pd.digest w _ rfl hb1 (by omega) (key k) (Lib.hid rfl) hs.1 hs.2 hlg (fun x w => Pw.padded_ (key k) x w (key_size k)) (fun s w hs => Dg.digest_ s w hs)
end Mc
end Go.Proofs.YtlcildmhcohpbaaGreatDoor
