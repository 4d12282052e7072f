/- The law FnMac walked. -/
import Derived.Test.YtlcildmhcohpbaaLp
import Derived.Test.YtlcildmhcohpbaaSx
import Derived.Test.YtlcildmhcohpbaaDt
namespace Go.Proofs.Ytlcildmhcohpbaa
open Go.RowKit
set_option linter.unusedSimpArgs false
set_option linter.unusedVariables false
namespace FnM
theorem up {w w' : World} {ao : Option Addr} {n : Nat} (h : Dr.Code w w.heap.size ao n) (hb : Below w.heap.size w w') : Dr.Code w' w'.heap.size ao n :=
  ⟨h.le, fun i hi => by
    obtain ⟨g, off, x, h1, h2, h3, h4, h5⟩ := h.at_ i hi
    exact ⟨g, off, x, h1, Nat.lt_of_lt_of_le h2 hb.size, h3, h4, (World.cell?_of_block (w := w) (a := ⟨g, off + i, none⟩) (hb.block g h2)).trans h5⟩⟩
theorem D_eq (s : ByteArray) (h : s.size ≤ 20000) : Dx.D s = Pd.digest s := by unfold Dx.D; rw [if_neg (by omega)]
theorem in_size (k t : ByteArray) (hk : k.size ≤ 64) (ht : t.size ≤ 200) : (Pw.px k 54 ++ t).size ≤ 2000000 := by rw [ByteArray.size_append, Pw.px_size]; omega
theorem mac_eq (k t : ByteArray) (hk : k.size ≤ 64) (ht : t.size ≤ 200) : Mc.M k t = Dx.D (Pw.px k 92 ++ Dx.D (Pw.px k 54 ++ t)) := by
  rw [Sx.M_mac k t (by omega) (by omega)]
  have h1 : Dx.D (Pw.px k 54 ++ t) = Pd.digest (Pw.px k 54 ++ t) := D_eq _ (by rw [ByteArray.size_append, Pw.px_size]; omega)
  rw [h1, D_eq _ (by rw [ByteArray.size_append, Pw.px_size, Pd.digest_size]; omega)]
  unfold Mc.mac Mc.mac0 Mc.key
  rw [if_neg (by omega)]
theorem in_32 (k t : ByteArray) (hk : k.size ≤ 64) (ht : t.size ≤ 200) : (Dx.D (Pw.px k 54 ++ t)).size = 32 := by
  rw [D_eq _ (by rw [ByteArray.size_append, Pw.px_size]; omega), Pd.digest_size]
theorem more_eq (p : ByteArray) (n : Int) (hp : p.size ≤ 200) (h1 : 1 ≤ n) (h2 : n ≤ 99) : Sx.S p (n + 1) = Mc.M p (Sx.S p n) := by
  obtain ⟨N, rfl⟩ := Int.eq_ofNat_of_zero_le (show 0 ≤ n by omega)
  unfold Sx.S
  rw [if_neg (by omega), if_neg (by omega), show ((N : Int) + 1).toNat = N + 1 by omega, Int.toNat_natCast]
  have := Sx.it_size p N
  rw [Sx.M_mac _ _ (by omega) (by omega)]
  rfl
theorem S_size (p : ByteArray) (n : Int) : (Sx.S p n).size ≤ 2000000 := by
  unfold Sx.S
  split
  · show (0 : Nat) ≤ 2000000
    omega
  · have := Sx.it_size p n.toNat
    omega
set_option maxHeartbeats 4000000 in
set_option maxRecDepth 100000 in
theorem core (D : ByteArray → ByteArray) (M : ByteArray → ByteArray → ByteArray) (S : ByteArray → Int → ByteArray) (px : ByteArray → Int → ByteArray)
    (hd : ∀ s w, s.size ≤ 2000000 → Calls Try.prog 14 #[.string s] w fun e w' => e = .returned (.string (D s)) ∧ Below w.heap.size w w')
    (hds : ∀ s w, s.size ≤ 2000000 → Calls Try.prog 13 #[.string s] w fun e w' => e = .returned (.string (D s)) ∧ Below w.heap.size w w')
    (hm : ∀ k t w, k.size ≤ 2000000 → t.size ≤ 2000000 → Calls Try.prog 16 #[.string k, .string t] w fun e w' => e = .returned (.string (M k t)) ∧ Below w.heap.size w w')
    (hst : ∀ p n w, p.size ≤ 2000000 → Calls Try.prog 18 #[.string p, .int .i64 n] w fun e w' => e = .returned (.string (S p n)) ∧ Below w.heap.size w w')
    (hss : ∀ p n w, Calls Try.prog 17 #[.string p, .int .i64 n] w fun e w' => e = .returned (.string (S p n)) ∧ Below w.heap.size w w')
    (hpad : ∀ k x w, k.size ≤ 64 → Calls Try.prog 20 #[.string k, .int .u8 x] w fun e w' => e = .returned (.string (px k x)) ∧ Below w.heap.size w w')
    (hpx : ∀ k x, (px k x).size = 64) (hmac : ∀ k t, k.size ≤ 64 → t.size ≤ 200 → Hid (M k t = D (px k 92 ++ D (px k 54 ++ t)))) (h32 : ∀ k t, k.size ≤ 64 → t.size ≤ 200 → (D (px k 54 ++ t)).size = 32)
    (hmore : ∀ p n, p.size ≤ 200 → 1 ≤ n → n ≤ 99 → Hid (S p (n + 1) = M p (S p n))) (hSs : ∀ p n, (S p n).size ≤ 2000000)
    (ao ao2 : Option Addr) (n n2 cap cap2 : Nat) (w : World) (hI : ¬ (1048576 : Int) < (n : Int)) (hI2 : ¬ (1048576 : Int) < (n2 : Int)) (hD : Dr.Code w w.heap.size ao n) (hD2 : Dr.Code w w.heap.size ao2 n2) :
    Calls Try.prog 7 #[.slice ao n cap, .slice ao2 n2 cap2] w fun e w' => e = .returned (.bool true) ∧ Below w.heap.size w w' := by
  go_enter Try.func7, Try.ntmps7
  go_wp2_with (go_at_call 19; refine (Dr.mac_ _ _ _ _ hD).mono ?_; rintro e w1 ⟨key, text, rfl, hk, ht, hB⟩)
  · have hk64 : key.size ≤ 64 := by omega
    have h54 := hpx key 54
    have h92 := hpx key 92
    have e32 := h32 key text hk64 ht
    have HMac := (hmac key text hk64 ht).out
    have s1 : (px key 54 ++ text).size ≤ 2000000 := by rw [ByteArray.size_append]; omega
    have s2 : (px key 92 ++ D (px key 54 ++ text)).size ≤ 2000000 := by rw [ByteArray.size_append]; omega
    have s3 : key.size ≤ 2000000 := by omega
    have s4 : text.size ≤ 2000000 := by omega
    go_wp2_with (first
          | (go_at_call 14; refine (hd _ _ (by assumption)).mono ?_; rintro e w' ⟨rfl, hb'⟩; replace hB := Below.trans hB (Below.mono hb' hB.size); clear hb')
          | (go_at_call 13; refine (hds _ _ (by assumption)).mono ?_; rintro e w' ⟨rfl, hb'⟩; replace hB := Below.trans hB (Below.mono hb' hB.size); clear hb')
          | (go_at_call 16; refine (hm _ _ _ (by assumption) (by assumption)).mono ?_; rintro e w' ⟨rfl, hb'⟩; replace hB := Below.trans hB (Below.mono hb' hB.size); clear hb')
          | (go_at_call 18; refine (hst _ _ _ (by assumption)).mono ?_; rintro e w' ⟨rfl, hb'⟩; replace hB := Below.trans hB (Below.mono hb' hB.size); clear hb')
          | (go_at_call 17; refine (hss _ _ _).mono ?_; rintro e w' ⟨rfl, hb'⟩; replace hB := Below.trans hB (Below.mono hb' hB.size); clear hb')
          | (go_at_call 20; refine (hpad _ _ _ (by assumption)).mono ?_; rintro e w' ⟨rfl, hb'⟩; replace hB := Below.trans hB (Below.mono hb' hB.size); clear hb'))
    clear s1 s2 s3 s4 h54 h92 e32 HMac hmac h32 hpx
    have hE2 := up hD2 hB
    go_wp2_with (go_at_call 21; refine (Dr.digest_ _ _ _ _ hE2).mono ?_; rintro e w2 ⟨t, rfl, ht2, hb'⟩; replace hB := Below.trans hB (Below.mono hb' hB.size); clear hb' hE2)
    have hE3 := up hD2 hB
    have ht3 : t.size ≤ 2000000 := by omega
    go_wp2_with (go_at_call 22; refine (Dr.stretch_ _ _ _ _ hE3).mono ?_; rintro e w3 ⟨p, k, rfl, hp, hb'⟩; replace hB := Below.trans hB (Below.mono hb' hB.size); clear hb' hE3)
    have hp3 : p.size ≤ 2000000 := by omega
    by_cases hk1 : k < 1
    · go_wp2_with (first
      | (go_at_call 14; refine (hd _ _ (by assumption)).mono ?_; rintro e w' ⟨rfl, hb'⟩; replace hB := Below.trans hB (Below.mono hb' hB.size); clear hb')
      | (go_at_call 13; refine (hds _ _ (by assumption)).mono ?_; rintro e w' ⟨rfl, hb'⟩; replace hB := Below.trans hB (Below.mono hb' hB.size); clear hb')
      | (go_at_call 16; refine (hm _ _ _ (by assumption) (by assumption)).mono ?_; rintro e w' ⟨rfl, hb'⟩; replace hB := Below.trans hB (Below.mono hb' hB.size); clear hb')
      | (go_at_call 18; refine (hst _ _ _ (by assumption)).mono ?_; rintro e w' ⟨rfl, hb'⟩; replace hB := Below.trans hB (Below.mono hb' hB.size); clear hb')
      | (go_at_call 17; refine (hss _ _ _).mono ?_; rintro e w' ⟨rfl, hb'⟩; replace hB := Below.trans hB (Below.mono hb' hB.size); clear hb')
      | (go_at_call 20; refine (hpad _ _ _ (by assumption)).mono ?_; rintro e w' ⟨rfl, hb'⟩; replace hB := Below.trans hB (Below.mono hb' hB.size); clear hb'))
      go_ret
      exact ⟨rfl, hB⟩
    · by_cases hk2 : 99 < k
      · go_wp2_with (first
      | (go_at_call 14; refine (hd _ _ (by assumption)).mono ?_; rintro e w' ⟨rfl, hb'⟩; replace hB := Below.trans hB (Below.mono hb' hB.size); clear hb')
      | (go_at_call 13; refine (hds _ _ (by assumption)).mono ?_; rintro e w' ⟨rfl, hb'⟩; replace hB := Below.trans hB (Below.mono hb' hB.size); clear hb')
      | (go_at_call 16; refine (hm _ _ _ (by assumption) (by assumption)).mono ?_; rintro e w' ⟨rfl, hb'⟩; replace hB := Below.trans hB (Below.mono hb' hB.size); clear hb')
      | (go_at_call 18; refine (hst _ _ _ (by assumption)).mono ?_; rintro e w' ⟨rfl, hb'⟩; replace hB := Below.trans hB (Below.mono hb' hB.size); clear hb')
      | (go_at_call 17; refine (hss _ _ _).mono ?_; rintro e w' ⟨rfl, hb'⟩; replace hB := Below.trans hB (Below.mono hb' hB.size); clear hb')
      | (go_at_call 20; refine (hpad _ _ _ (by assumption)).mono ?_; rintro e w' ⟨rfl, hb'⟩; replace hB := Below.trans hB (Below.mono hb' hB.size); clear hb'))
        go_ret
        exact ⟨rfl, hB⟩
      · have HM := hmore p k hp (by omega) (by omega)
        have hS1 := hSs p k
        go_wp2_with (first
      | (go_at_call 14; refine (hd _ _ (by assumption)).mono ?_; rintro e w' ⟨rfl, hb'⟩; replace hB := Below.trans hB (Below.mono hb' hB.size); clear hb')
      | (go_at_call 13; refine (hds _ _ (by assumption)).mono ?_; rintro e w' ⟨rfl, hb'⟩; replace hB := Below.trans hB (Below.mono hb' hB.size); clear hb')
      | (go_at_call 16; refine (hm _ _ _ (by assumption) (by assumption)).mono ?_; rintro e w' ⟨rfl, hb'⟩; replace hB := Below.trans hB (Below.mono hb' hB.size); clear hb')
      | (go_at_call 18; refine (hst _ _ _ (by assumption)).mono ?_; rintro e w' ⟨rfl, hb'⟩; replace hB := Below.trans hB (Below.mono hb' hB.size); clear hb')
      | (go_at_call 17; refine (hss _ _ _).mono ?_; rintro e w' ⟨rfl, hb'⟩; replace hB := Below.trans hB (Below.mono hb' hB.size); clear hb')
      | (go_at_call 20; refine (hpad _ _ _ (by assumption)).mono ?_; rintro e w' ⟨rfl, hb'⟩; replace hB := Below.trans hB (Below.mono hb' hB.size); clear hb'))
        go_ret
        refine ⟨ret_bool ?_, hB⟩
        rw [HM.out]
        simp

  · have hE2 := up hD2 hB
    go_wp2_with (go_at_call 21; refine (Dr.digest_ _ _ _ _ hE2).mono ?_; rintro e w2 ⟨t, rfl, ht2, hb'⟩; replace hB := Below.trans hB (Below.mono hb' hB.size); clear hb' hE2)
    have hE3 := up hD2 hB
    have ht3 : t.size ≤ 2000000 := by omega
    go_wp2_with (go_at_call 22; refine (Dr.stretch_ _ _ _ _ hE3).mono ?_; rintro e w3 ⟨p, k, rfl, hp, hb'⟩; replace hB := Below.trans hB (Below.mono hb' hB.size); clear hb' hE3)
    have hp3 : p.size ≤ 2000000 := by omega
    by_cases hk1 : k < 1
    · go_wp2_with (first
      | (go_at_call 14; refine (hd _ _ (by assumption)).mono ?_; rintro e w' ⟨rfl, hb'⟩; replace hB := Below.trans hB (Below.mono hb' hB.size); clear hb')
      | (go_at_call 13; refine (hds _ _ (by assumption)).mono ?_; rintro e w' ⟨rfl, hb'⟩; replace hB := Below.trans hB (Below.mono hb' hB.size); clear hb')
      | (go_at_call 16; refine (hm _ _ _ (by assumption) (by assumption)).mono ?_; rintro e w' ⟨rfl, hb'⟩; replace hB := Below.trans hB (Below.mono hb' hB.size); clear hb')
      | (go_at_call 18; refine (hst _ _ _ (by assumption)).mono ?_; rintro e w' ⟨rfl, hb'⟩; replace hB := Below.trans hB (Below.mono hb' hB.size); clear hb')
      | (go_at_call 17; refine (hss _ _ _).mono ?_; rintro e w' ⟨rfl, hb'⟩; replace hB := Below.trans hB (Below.mono hb' hB.size); clear hb')
      | (go_at_call 20; refine (hpad _ _ _ (by assumption)).mono ?_; rintro e w' ⟨rfl, hb'⟩; replace hB := Below.trans hB (Below.mono hb' hB.size); clear hb'))
      go_ret
      exact ⟨rfl, hB⟩
    · by_cases hk2 : 99 < k
      · go_wp2_with (first
      | (go_at_call 14; refine (hd _ _ (by assumption)).mono ?_; rintro e w' ⟨rfl, hb'⟩; replace hB := Below.trans hB (Below.mono hb' hB.size); clear hb')
      | (go_at_call 13; refine (hds _ _ (by assumption)).mono ?_; rintro e w' ⟨rfl, hb'⟩; replace hB := Below.trans hB (Below.mono hb' hB.size); clear hb')
      | (go_at_call 16; refine (hm _ _ _ (by assumption) (by assumption)).mono ?_; rintro e w' ⟨rfl, hb'⟩; replace hB := Below.trans hB (Below.mono hb' hB.size); clear hb')
      | (go_at_call 18; refine (hst _ _ _ (by assumption)).mono ?_; rintro e w' ⟨rfl, hb'⟩; replace hB := Below.trans hB (Below.mono hb' hB.size); clear hb')
      | (go_at_call 17; refine (hss _ _ _).mono ?_; rintro e w' ⟨rfl, hb'⟩; replace hB := Below.trans hB (Below.mono hb' hB.size); clear hb')
      | (go_at_call 20; refine (hpad _ _ _ (by assumption)).mono ?_; rintro e w' ⟨rfl, hb'⟩; replace hB := Below.trans hB (Below.mono hb' hB.size); clear hb'))
        go_ret
        exact ⟨rfl, hB⟩
      · have HM := hmore p k hp (by omega) (by omega)
        have hS1 := hSs p k
        go_wp2_with (first
      | (go_at_call 14; refine (hd _ _ (by assumption)).mono ?_; rintro e w' ⟨rfl, hb'⟩; replace hB := Below.trans hB (Below.mono hb' hB.size); clear hb')
      | (go_at_call 13; refine (hds _ _ (by assumption)).mono ?_; rintro e w' ⟨rfl, hb'⟩; replace hB := Below.trans hB (Below.mono hb' hB.size); clear hb')
      | (go_at_call 16; refine (hm _ _ _ (by assumption) (by assumption)).mono ?_; rintro e w' ⟨rfl, hb'⟩; replace hB := Below.trans hB (Below.mono hb' hB.size); clear hb')
      | (go_at_call 18; refine (hst _ _ _ (by assumption)).mono ?_; rintro e w' ⟨rfl, hb'⟩; replace hB := Below.trans hB (Below.mono hb' hB.size); clear hb')
      | (go_at_call 17; refine (hss _ _ _).mono ?_; rintro e w' ⟨rfl, hb'⟩; replace hB := Below.trans hB (Below.mono hb' hB.size); clear hb')
      | (go_at_call 20; refine (hpad _ _ _ (by assumption)).mono ?_; rintro e w' ⟨rfl, hb'⟩; replace hB := Below.trans hB (Below.mono hb' hB.size); clear hb'))
        go_ret
        refine ⟨ret_bool ?_, hB⟩
        rw [HM.out]
        simp

set_option maxHeartbeats 4000000 in
set_option maxRecDepth 100000 in
theorem law_ (ao ao2 : Option Addr) (n n2 cap cap2 : Nat) (w : World) (hC : n ≤ 1048576 → Dr.Code w w.heap.size ao n) (hC2 : n2 ≤ 1048576 → Dr.Code w w.heap.size ao2 n2) :
    Calls Try.prog 7 #[.slice ao n cap, .slice ao2 n2 cap2] w fun e w' => e = .returned (.bool true) ∧ Below w.heap.size w w' := by
  by_cases h : 1048576 < n
  · have hI : (1048576 : Int) < (n : Int) := by omega
    go_enter Try.func7, Try.ntmps7
    go_wp2
    go_ret
    exact ⟨rfl, Below.refl _ _⟩
  · have hI : ¬ (1048576 : Int) < (n : Int) := by omega
    by_cases h2 : 1048576 < n2
    · have hI2 : (1048576 : Int) < (n2 : Int) := by omega
      go_enter Try.func7, Try.ntmps7
      go_wp2
      go_ret
      exact ⟨rfl, Below.refl _ _⟩
    · have hI2 : ¬ (1048576 : Int) < (n2 : Int) := by omega
      have hD := hC (by omega)
      have hD2 := hC2 (by omega)
      clear hC hC2 h h2
      exact core Dx.D Mc.M Sx.S Pw.px (fun s w h => Dx.impl_ s w h) (fun s w h => Dx.spec_ s w h) (fun k t w h1 h2 => Mc.impl_ k t w h1 h2) (fun p n w h => Sx.impl_ p n w h) (fun p n w => Sx.spec_ p n w)
        (fun k x w h => Pw.lw_ k x w h) Pw.px_size (fun k t h1 h2 => Lib.hid (mac_eq k t h1 h2)) in_32 (fun p n h1 h2 h3 => Lib.hid (more_eq p n h1 h2 h3)) S_size ao ao2 n n2 cap cap2 w hI hI2 hD hD2
end FnM
end Go.Proofs.Ytlcildmhcohpbaa
