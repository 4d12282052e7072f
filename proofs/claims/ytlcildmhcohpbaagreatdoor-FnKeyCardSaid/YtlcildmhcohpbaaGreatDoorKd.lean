/-
  What both DbKey answer, as a plain function; the reference's DbKey.
-/
import Derived.Test.YtlcildmhcohpbaaGreatDoorMc
import Derived.Test.YtlcildmhcohpbaaGreatDoorHx
import Derived.Test.YtlcildmhcohpbaaGreatDoorDe
import Derived.Test.YtlcildmhcohpbaaGreatDoorIn
import Derived.Test.YtlcildmhcohpbaaGreatDoorJr
namespace Go.Proofs.YtlcildmhcohpbaaGreatDoor
open Go.RowKit
set_option linter.unusedSimpArgs false
set_option linter.unusedVariables false
namespace Kd
open Do Jr
def msg (T F dc : ByteArray) : ByteArray := T ++ ⟨#[32]⟩ ++ F ++ ⟨#[32]⟩ ++ dc
noncomputable def okB (S T F : ByteArray) (id : Int) : Bool := decide (1 ≤ S.size ∧ S.size ≤ 100) && (domB T && (domB F && decide (1 ≤ id ∧ id ≤ 1000000000)))
def full (S T F : ByteArray) (id : Int) : ByteArray := Hx.hex (Mc.mac (Pd.digest S) (msg T F (De.dec id.toNat)))
noncomputable def K (S T F : ByteArray) (id : Int) : ByteArray := if okB S T F id = true then full S T F id else ⟨#[]⟩
theorem full_size (S T F : ByteArray) (id : Int) : (full S T F id).size = 64 := by
  unfold full
  rw [Hx.hex_size, Mc.mac_size]
theorem dec_size (N : Nat) (h : N ≤ 1000000000) : (De.dec N).size ≤ 21 := by
  unfold De.dec
  rw [De.str_size]
  exact De.digits_len N h
theorem msg_size (T F dc : ByteArray) : (msg T F dc).size = T.size + F.size + dc.size + 2 := by
  unfold msg
  simp only [ByteArray.size_append]
  have : (⟨#[32]⟩ : ByteArray).size = 1 := rfl
  omega
theorem K_no {S T F : ByteArray} {id : Int} (h : okB S T F id = false) : K S T F id = ⟨#[]⟩ := by
  unfold K
  rw [h]
  rfl
theorem K_yes {S T F : ByteArray} {id : Int} (h : okB S T F id = true) : K S T F id = full S T F id := if_pos h
theorem dom_size {T : ByteArray} (h : domB T = true) : T.size ≤ 30 := ((domB_iff T).1 h).2.1
set_option maxHeartbeats 2000000 in
theorem specyes (S T F : ByteArray) (id : Int) (D : ByteArray → Bool) (dc k1 k2 k3 : ByteArray) (w : World) (hs1 : ¬ (S.size : Int) < 1) (hs2 : ¬ 100 < (S.size : Int)) (hsz : T.size ≤ 30) (hsz2 : F.size ≤ 30) (hsz3 : dc.size ≤ 21)
    (h1 : D T = true) (h2 : D F = true)
    (hdom : ∀ t w, Calls Tryz.prog 12 #[.string t] w fun e w' => e = .returned (.bool (D t)) ∧ w = w')
    (his : ∀ w, Calls Tryz.prog 13 #[.int .i64 id, .int .i64 1, .int .i64 1000000000] w fun e w' => e = .returned (.bool true) ∧ w = w')
    (hdec : ∀ w, Calls Tryz.prog 17 #[.int .i64 id] w fun e w' => e = .returned (.string dc) ∧ Below w.heap.size w w')
    (hall : ∀ w, Calls Tryz.prog 16 #[.string S] w fun e w' => e = .returned (.string k1) ∧ Below w.heap.size w w')
    (hmac : ∀ w, Calls Tryz.prog 15 #[.string k1, .string (msg T F dc)] w fun e w' => e = .returned (.string k2) ∧ Below w.heap.size w w')
    (hhex : ∀ w, Calls Tryz.prog 14 #[.string k2] w fun e w' => e = .returned (.string k3) ∧ Below w.heap.size w w') :
    Calls Tryz.prog 6 #[.string S, .string T, .string F, .int .i64 id] w fun e w' => e = .returned (.string k3) ∧ Below w.heap.size w w' := by
  unfold msg at hmac
  have hB : Below w.heap.size w w := Below.refl _ _
  have s1 : (⟨#[32]⟩ : ByteArray).size = 1 := rfl
  go_enter Tryz.func6, Tryz.ntmps6
  go_wp2_with (first
    | (go_at_call 12; refine (hdom _ _).mono ?_; rintro e w' ⟨rfl, rfl⟩)
    | (go_at_call 13; refine (his _).mono ?_; rintro e w' ⟨rfl, rfl⟩)
    | (go_at_call 17; refine (hdec _).mono ?_; rintro e w' ⟨rfl, hb'⟩; replace hB := Below.trans hB (Below.mono hb' hB.size); clear hb')
    | (go_at_call 16; refine (hall _).mono ?_; rintro e w' ⟨rfl, hb'⟩; replace hB := Below.trans hB (Below.mono hb' hB.size); clear hb')
    | (go_at_call 15; refine (hmac _).mono ?_; rintro e w' ⟨rfl, hb'⟩; replace hB := Below.trans hB (Below.mono hb' hB.size); clear hb')
    | (go_at_call 14; refine (hhex _).mono ?_; rintro e w' ⟨rfl, hb'⟩; replace hB := Below.trans hB (Below.mono hb' hB.size); clear hb'))
  go_ret
  exact ⟨rfl, hB⟩
set_option maxHeartbeats 2000000 in
theorem specno0 (S T F : ByteArray) (id : Int) (w : World) (hs : S.size ≤ 2000000) (h : ¬ (1 ≤ S.size ∧ S.size ≤ 100)) :
    Calls Tryz.prog 6 #[.string S, .string T, .string F, .int .i64 id] w fun e w' => e = .returned (.string ⟨#[]⟩) ∧ Below w.heap.size w w' := by
  by_cases h1 : (S.size : Int) < 1
  · clear h
    go_enter Tryz.func6, Tryz.ntmps6
    go_wp2_with fail
    go_ret
    exact ⟨rfl, Below.refl _ _⟩
  · have h2 : 100 < (S.size : Int) := by omega
    clear h
    go_enter Tryz.func6, Tryz.ntmps6
    go_wp2_with fail
    go_ret
    exact ⟨rfl, Below.refl _ _⟩
set_option maxHeartbeats 2000000 in
theorem specno1 (S T F : ByteArray) (id : Int) (D : ByteArray → Bool) (w : World) (hs1 : ¬ (S.size : Int) < 1) (hs2 : ¬ 100 < (S.size : Int)) (h1 : D T = false)
    (hdom : ∀ t w, Calls Tryz.prog 12 #[.string t] w fun e w' => e = .returned (.bool (D t)) ∧ w = w') :
    Calls Tryz.prog 6 #[.string S, .string T, .string F, .int .i64 id] w fun e w' => e = .returned (.string ⟨#[]⟩) ∧ Below w.heap.size w w' := by
  go_enter Tryz.func6, Tryz.ntmps6
  go_wp2_with (go_at_call 12; refine (hdom _ _).mono ?_; rintro e w' ⟨rfl, rfl⟩)
  go_ret
  exact ⟨rfl, Below.refl _ _⟩
set_option maxHeartbeats 2000000 in
theorem specno2 (S T F : ByteArray) (id : Int) (D : ByteArray → Bool) (w : World) (hs1 : ¬ (S.size : Int) < 1) (hs2 : ¬ 100 < (S.size : Int)) (h1 : D T = true) (h2 : D F = false)
    (hdom : ∀ t w, Calls Tryz.prog 12 #[.string t] w fun e w' => e = .returned (.bool (D t)) ∧ w = w') :
    Calls Tryz.prog 6 #[.string S, .string T, .string F, .int .i64 id] w fun e w' => e = .returned (.string ⟨#[]⟩) ∧ Below w.heap.size w w' := by
  go_enter Tryz.func6, Tryz.ntmps6
  go_wp2_with (go_at_call 12; refine (hdom _ _).mono ?_; rintro e w' ⟨rfl, rfl⟩)
  go_ret
  exact ⟨rfl, Below.refl _ _⟩
set_option maxHeartbeats 2000000 in
theorem specno3 (S T F : ByteArray) (id : Int) (D : ByteArray → Bool) (w : World) (hs1 : ¬ (S.size : Int) < 1) (hs2 : ¬ 100 < (S.size : Int)) (h1 : D T = true) (h2 : D F = true)
    (hdom : ∀ t w, Calls Tryz.prog 12 #[.string t] w fun e w' => e = .returned (.bool (D t)) ∧ w = w')
    (his : ∀ w, Calls Tryz.prog 13 #[.int .i64 id, .int .i64 1, .int .i64 1000000000] w fun e w' => e = .returned (.bool false) ∧ w = w') :
    Calls Tryz.prog 6 #[.string S, .string T, .string F, .int .i64 id] w fun e w' => e = .returned (.string ⟨#[]⟩) ∧ Below w.heap.size w w' := by
  go_enter Tryz.func6, Tryz.ntmps6
  go_wp2_with (first
    | (go_at_call 12; refine (hdom _ _).mono ?_; rintro e w' ⟨rfl, rfl⟩)
    | (go_at_call 13; refine (his _).mono ?_; rintro e w' ⟨rfl, rfl⟩))
  go_ret
  exact ⟨rfl, Below.refl _ _⟩
theorem spec_ (S T F : ByteArray) (id : Int) (w : World) (hs : S.size ≤ 2000000) :
    Calls Tryz.prog 6 #[.string S, .string T, .string F, .int .i64 id] w fun e w' => e = .returned (.string (K S T F id)) ∧ Below w.heap.size w w' := by
  have hdom : ∀ t w, Calls Tryz.prog 12 #[.string t] w fun e w' => e = .returned (.bool (domB t)) ∧ w = w' := fun t w => l05_ t (domB t) w (Lib.hid (domB_iff t))
  by_cases h0 : 1 ≤ S.size ∧ S.size ≤ 100
  · have e0 : decide (1 ≤ S.size ∧ S.size ≤ 100) = true := decide_eq_true h0
    cases h1 : domB T with
    | false =>
      rw [K_no (by unfold okB; rw [h1]; simp)]
      exact specno1 S T F id domB w (by omega) (by omega) h1 hdom
    | true =>
      cases h2 : domB F with
      | false =>
        rw [K_no (by unfold okB; rw [h2]; simp)]
        exact specno2 S T F id domB w (by omega) (by omega) h1 h2 hdom
      | true =>
        by_cases h3 : 1 ≤ id ∧ id ≤ 1000000000
        · rw [K_yes (by unfold okB; rw [e0, h1, h2, decide_eq_true h3]; rfl)]
          have t1 := dom_size h1
          have t2 := dom_size h2
          obtain ⟨N, rfl⟩ := Int.eq_ofNat_of_zero_le (show 0 ≤ id by omega)
          have hd := dec_size N (by omega)
          have hm := msg_size T F (De.dec N)
          have hdig := Pd.digest_size S
          have hmac := Mc.mac_size (Pd.digest S) (msg T F (De.dec N))
          exact specyes S T F (N : Int) domB (De.dec N) (Pd.digest S) (Mc.mac (Pd.digest S) (msg T F (De.dec N))) _ w (by omega) (by omega) t1 t2 hd h1 h2 hdom
            (fun w => In.is_yes _ _ _ h3 w) (fun w => De.spec_ N w (by omega) (by omega)) (fun w => Al.all_ S w (by omega)) (fun w => Mc.l02_ _ _ w (by omega) (by omega)) (fun w => Hx.spec_ _ w (by omega))
        · rw [K_no (by unfold okB; rw [decide_eq_false h3]; simp)]
          exact specno3 S T F id domB w (by omega) (by omega) h1 h2 hdom (fun w => In.is_no _ _ _ h3 w)
  · rw [K_no (by unfold okB; rw [decide_eq_false h0]; rfl)]
    exact specno0 S T F id w hs h0
end Kd
end Go.Proofs.YtlcildmhcohpbaaGreatDoor
