/-
  The program's DbKey.
-/
import Derived.Test.YtlcildmhcohpbaaGreatDoorKd
import Derived.Test.YtlcildmhcohpbaaGreatDoorJi
namespace Go.Proofs.YtlcildmhcohpbaaGreatDoor
open Go.RowKit
set_option linter.unusedSimpArgs false
set_option linter.unusedVariables false
namespace Ki
open Do Jr Ji Kd
theorem isId_ (n : Int) (w : World) : Calls Tryz.prog 20 #[.int .i64 n] w fun e w' => e = .returned (.bool (decide (1 ≤ n ∧ n ≤ 1000000000))) ∧ w = w' := by
  have hin := In.in_ n 1 1000000000
  generalize decide (1 ≤ n ∧ n ≤ 1000000000) = b at *
  go_enter Tryz.func20, Tryz.ntmps20
  go_wp2_with (go_at_call 18; refine (hin _).mono ?_; rintro e w' ⟨rfl, rfl⟩)
  go_ret
  exact ⟨rfl, rfl⟩
theorem isId_yes (n : Int) (w : World) (h : 1 ≤ n ∧ n ≤ 1000000000) : Calls Tryz.prog 20 #[.int .i64 n] w fun e w' => e = .returned (.bool true) ∧ w = w' := by
  have := isId_ n w
  rw [decide_eq_true h] at this
  exact this
theorem isId_no (n : Int) (w : World) (h : ¬ (1 ≤ n ∧ n ≤ 1000000000)) : Calls Tryz.prog 20 #[.int .i64 n] w fun e w' => e = .returned (.bool false) ∧ w = w' := by
  have := isId_ n w
  rw [decide_eq_false h] at this
  exact this
set_option maxHeartbeats 2000000 in
theorem implyes (S T F : ByteArray) (id : Int) (D : ByteArray → Bool) (w : World) (m : Int) (hE : Env w m) (hs : S.size ≤ 2000000) (ht : T.size ≤ 2000000) (hf : F.size ≤ 2000000)
    (dc k1 k2 k3 : ByteArray) (hsz : T.size ≤ 30) (hsz2 : F.size ≤ 30) (hsz3 : dc.size ≤ 21) (h1 : D T = true) (h2 : D F = true)
    (hin : ∀ w, Calls Tryz.prog 18 #[.int .i64 (S.size : Int), .int .i64 1, .int .i64 100] w fun e w' => e = .returned (.bool true) ∧ w = w')
    (hdom : ∀ t w, Env w m → t.size ≤ 2000000 → Calls Tryz.prog 19 #[.string t] w fun e w' => e = .returned (.bool (D t)) ∧ Below w.heap.size w w')
    (hid : ∀ w, Calls Tryz.prog 20 #[.int .i64 id] w fun e w' => e = .returned (.bool true) ∧ w = w')
    (hdec : ∀ w, Env w m → Calls Tryz.prog 24 #[.int .i64 id] w fun e w' => e = .returned (.string dc) ∧ Below w.heap.size w w')
    (hdig : ∀ w, Calls Tryz.prog 23 #[.string S] w fun e w' => e = .returned (.string k1) ∧ Below w.heap.size w w')
    (hmac : ∀ w, Calls Tryz.prog 22 #[.string k1, .string (msg T F dc)] w fun e w' => e = .returned (.string k2) ∧ Below w.heap.size w w')
    (hhex : ∀ w, Calls Tryz.prog 21 #[.string k2] w fun e w' => e = .returned (.string k3) ∧ Below w.heap.size w w') :
    Calls Tryz.prog 7 #[.string S, .string T, .string F, .int .i64 id] w fun e w' => e = .returned (.string k3) ∧ Below w.heap.size w w' := by
  unfold msg at hmac
  have s1 : (⟨#[32]⟩ : ByteArray).size = 1 := rfl
  have hB : Below w.heap.size w w := Below.refl _ _
  go_enter Tryz.func7, Tryz.ntmps7
  go_wp2_with (first
    | (go_at_call 18; refine (hin _).mono ?_; rintro e w' ⟨rfl, rfl⟩)
    | (go_at_call 19; refine (hdom _ _ (hE.below hB) (by assumption)).mono ?_; rintro e w' ⟨rfl, hb'⟩; replace hB := Below.trans hB (Below.mono hb' hB.size); clear hb')
    | (go_at_call 20; refine (hid _).mono ?_; rintro e w' ⟨rfl, rfl⟩)
    | (go_at_call 24; refine (hdec _ (hE.below hB)).mono ?_; rintro e w' ⟨rfl, hb'⟩; replace hB := Below.trans hB (Below.mono hb' hB.size); clear hb')
    | (go_at_call 23; refine (hdig _).mono ?_; rintro e w' ⟨rfl, hb'⟩; replace hB := Below.trans hB (Below.mono hb' hB.size); clear hb')
    | (go_at_call 22; refine (hmac _).mono ?_; rintro e w' ⟨rfl, hb'⟩; replace hB := Below.trans hB (Below.mono hb' hB.size); clear hb')
    | (go_at_call 21; refine (hhex _).mono ?_; rintro e w' ⟨rfl, hb'⟩; replace hB := Below.trans hB (Below.mono hb' hB.size); clear hb'))
  go_ret
  exact ⟨rfl, hB⟩
set_option maxHeartbeats 2000000 in
theorem implno0 (S T F : ByteArray) (id : Int) (D : ByteArray → Bool) (w : World) (m : Int) (hE : Env w m) (hs : S.size ≤ 2000000) (ht : T.size ≤ 2000000) (hf : F.size ≤ 2000000)
    (hin : ∀ w, Calls Tryz.prog 18 #[.int .i64 (S.size : Int), .int .i64 1, .int .i64 100] w fun e w' => e = .returned (.bool false) ∧ w = w') :
    Calls Tryz.prog 7 #[.string S, .string T, .string F, .int .i64 id] w fun e w' => e = .returned (.string ⟨#[]⟩) ∧ Below w.heap.size w w' := by
  have hB : Below w.heap.size w w := Below.refl _ _
  go_enter Tryz.func7, Tryz.ntmps7
  go_wp2_with (first
    | (go_at_call 18; refine (hin _).mono ?_; rintro e w' ⟨rfl, rfl⟩))
  go_ret
  exact ⟨rfl, hB⟩
set_option maxHeartbeats 2000000 in
theorem implno1 (S T F : ByteArray) (id : Int) (D : ByteArray → Bool) (w : World) (m : Int) (hE : Env w m) (hs : S.size ≤ 2000000) (ht : T.size ≤ 2000000) (hf : F.size ≤ 2000000)
    (h1 : D T = false)
    (hin : ∀ w, Calls Tryz.prog 18 #[.int .i64 (S.size : Int), .int .i64 1, .int .i64 100] w fun e w' => e = .returned (.bool true) ∧ w = w')
    (hdom : ∀ t w, Env w m → t.size ≤ 2000000 → Calls Tryz.prog 19 #[.string t] w fun e w' => e = .returned (.bool (D t)) ∧ Below w.heap.size w w') :
    Calls Tryz.prog 7 #[.string S, .string T, .string F, .int .i64 id] w fun e w' => e = .returned (.string ⟨#[]⟩) ∧ Below w.heap.size w w' := by
  have hB : Below w.heap.size w w := Below.refl _ _
  go_enter Tryz.func7, Tryz.ntmps7
  go_wp2_with (first
    | (go_at_call 18; refine (hin _).mono ?_; rintro e w' ⟨rfl, rfl⟩)
    | (go_at_call 19; refine (hdom _ _ (hE.below hB) (by assumption)).mono ?_; rintro e w' ⟨rfl, hb'⟩; replace hB := Below.trans hB (Below.mono hb' hB.size); clear hb'))
  go_ret
  exact ⟨rfl, hB⟩
set_option maxHeartbeats 2000000 in
theorem implno2 (S T F : ByteArray) (id : Int) (D : ByteArray → Bool) (w : World) (m : Int) (hE : Env w m) (hs : S.size ≤ 2000000) (ht : T.size ≤ 2000000) (hf : F.size ≤ 2000000)
    (h1 : D T = true) (h2 : D F = false)
    (hin : ∀ w, Calls Tryz.prog 18 #[.int .i64 (S.size : Int), .int .i64 1, .int .i64 100] w fun e w' => e = .returned (.bool true) ∧ w = w')
    (hdom : ∀ t w, Env w m → t.size ≤ 2000000 → Calls Tryz.prog 19 #[.string t] w fun e w' => e = .returned (.bool (D t)) ∧ Below w.heap.size w w') :
    Calls Tryz.prog 7 #[.string S, .string T, .string F, .int .i64 id] w fun e w' => e = .returned (.string ⟨#[]⟩) ∧ Below w.heap.size w w' := by
  have hB : Below w.heap.size w w := Below.refl _ _
  go_enter Tryz.func7, Tryz.ntmps7
  go_wp2_with (first
    | (go_at_call 18; refine (hin _).mono ?_; rintro e w' ⟨rfl, rfl⟩)
    | (go_at_call 19; refine (hdom _ _ (hE.below hB) (by assumption)).mono ?_; rintro e w' ⟨rfl, hb'⟩; replace hB := Below.trans hB (Below.mono hb' hB.size); clear hb'))
  go_ret
  exact ⟨rfl, hB⟩
set_option maxHeartbeats 2000000 in
theorem implno3 (S T F : ByteArray) (id : Int) (D : ByteArray → Bool) (w : World) (m : Int) (hE : Env w m) (hs : S.size ≤ 2000000) (ht : T.size ≤ 2000000) (hf : F.size ≤ 2000000)
    (h1 : D T = true) (h2 : D F = true)
    (hin : ∀ w, Calls Tryz.prog 18 #[.int .i64 (S.size : Int), .int .i64 1, .int .i64 100] w fun e w' => e = .returned (.bool true) ∧ w = w')
    (hdom : ∀ t w, Env w m → t.size ≤ 2000000 → Calls Tryz.prog 19 #[.string t] w fun e w' => e = .returned (.bool (D t)) ∧ Below w.heap.size w w')
    (hid : ∀ w, Calls Tryz.prog 20 #[.int .i64 id] w fun e w' => e = .returned (.bool false) ∧ w = w') :
    Calls Tryz.prog 7 #[.string S, .string T, .string F, .int .i64 id] w fun e w' => e = .returned (.string ⟨#[]⟩) ∧ Below w.heap.size w w' := by
  have hB : Below w.heap.size w w := Below.refl _ _
  go_enter Tryz.func7, Tryz.ntmps7
  go_wp2_with (first
    | (go_at_call 18; refine (hin _).mono ?_; rintro e w' ⟨rfl, rfl⟩)
    | (go_at_call 19; refine (hdom _ _ (hE.below hB) (by assumption)).mono ?_; rintro e w' ⟨rfl, hb'⟩; replace hB := Below.trans hB (Below.mono hb' hB.size); clear hb')
    | (go_at_call 20; refine (hid _).mono ?_; rintro e w' ⟨rfl, rfl⟩))
  go_ret
  exact ⟨rfl, hB⟩
theorem D_eq (s : ByteArray) (h : s.size ≤ 20000) : Dx.D s = Pd.digest s := by
  unfold Dx.D
  rw [if_neg (by omega)]
theorem M_mac (p t : ByteArray) (h1 : p.size ≤ 20000) (h2 : t.size ≤ 20000) : Mc.M p t = Mc.mac p t := by
  unfold Mc.M
  rw [if_neg (by omega)]
theorem impl_ (S T F : ByteArray) (id : Int) (w : World) (m : Int) (hE : Env w m) (hs : S.size ≤ 2000000) (ht : T.size ≤ 2000000) (hf : F.size ≤ 2000000) :
    Calls Tryz.prog 7 #[.string S, .string T, .string F, .int .i64 id] w fun e w' => e = .returned (.string (K S T F id)) ∧ Below w.heap.size w w' := by
  have hdom : ∀ t w, Env w m → t.size ≤ 2000000 → Calls Tryz.prog 19 #[.string t] w fun e w' => e = .returned (.bool (domB t)) ∧ Below w.heap.size w w' := fun t w hE hs => isDomain_ t w m hE hs
  by_cases h0 : 1 ≤ S.size ∧ S.size ≤ 100
  · have e0 : decide (1 ≤ S.size ∧ S.size ≤ 100) = true := decide_eq_true h0
    have hin := fun w => In.in_yes (S.size : Int) 1 100 (by omega) w
    cases h1 : domB T with
    | false =>
      rw [K_no (by unfold okB; rw [h1]; simp)]
      exact implno1 S T F id domB w m hE hs ht hf h1 hin hdom
    | true =>
      cases h2 : domB F with
      | false =>
        rw [K_no (by unfold okB; rw [h2]; simp)]
        exact implno2 S T F id domB w m hE hs ht hf h1 h2 hin hdom
      | true =>
        by_cases h3 : 1 ≤ id ∧ id ≤ 1000000000
        · rw [K_yes (by unfold okB; rw [e0, h1, h2, decide_eq_true h3]; rfl)]
          have t1 := dom_size h1
          have t2 := dom_size h2
          obtain ⟨N, rfl⟩ := Int.eq_ofNat_of_zero_le (show 0 ≤ id by omega)
          have hd := dec_size N (by omega)
          have hm := msg_size T F (De.dec N)
          have hdig := Pd.digest_size S
          have hmac := Mc.mac_size (Pd.digest S) (msg T F (De.dec N))
          have hD := fun w => Dx.impl_ S w hs
          rw [D_eq S (by omega)] at hD
          have hM := fun w => Mc.impl_ (Pd.digest S) (msg T F (De.dec N)) w (by omega) (by omega)
          rw [M_mac _ _ (by omega) (by omega)] at hM
          exact implyes S T F (N : Int) domB w m hE hs ht hf (De.dec N) (Pd.digest S) (Mc.mac (Pd.digest S) (msg T F (De.dec N))) _ t1 t2 hd h1 h2 hin hdom
            (fun w => isId_yes _ w h3) (fun w hE => De.impl_ N w (by omega) hE.tab) hD hM (fun w => Hx.impl_ _ w (by omega))
        · rw [K_no (by unfold okB; rw [decide_eq_false h3]; simp)]
          exact implno3 S T F id domB w m hE hs ht hf h1 h2 hin hdom (fun w => isId_no _ w h3)
  · rw [K_no (by unfold okB; rw [decide_eq_false h0]; rfl)]
    exact implno0 S T F id domB w m hE hs ht hf (fun w => In.in_no _ _ _ (by omega) w)
end Ki
end Go.Proofs.YtlcildmhcohpbaaGreatDoor
