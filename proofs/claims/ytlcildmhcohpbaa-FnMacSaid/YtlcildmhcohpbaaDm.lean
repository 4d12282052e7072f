/-
  The draws of digests, keys and passwords.
-/
import Derived.Test.YtlcildmhcohpbaaDw
import Derived.Deep.OwnRows
namespace Go.Proofs.Ytlcildmhcohpbaa
open Go.RowKit
set_option linter.unusedSimpArgs false
set_option linter.unusedVariables false
namespace Dr
theorem made_at (v : Value) (n i : Nat) (h : i < n) : (madeCells #[v] n)[i]? = some v := by
  have e : i % 1 = 0 := Nat.mod_one i
  simp [madeCells, h, e]
theorem to_below {w w1 w2 : World} {p : Nat} (h : Below w.heap.size w w1) (hp : w.heap.size ≤ p) (hg : w1.grownBy w2 (some p)) : Below w.heap.size w w2 :=
  h.grown hg h.size (fun i e => by injection e; omega)
set_option maxHeartbeats 4000000 in
theorem digest_ (w : World) (ao : Option Addr) (n cap : Nat) (hC : Code w w.heap.size ao n) :
    Calls Try.prog 21 #[.slice ao n cap] w fun e w' => ∃ s : ByteArray, e = .returned (.string s) ∧ s.size ≤ 200 ∧ Below w.heap.size w w' := by
  go_enter Try.func21, Try.ntmps21
  go_wp2_with (go_at_call 31; refine (source_ w ao n cap hC).mono ?_; rintro e w1 ⟨p, rfl, hp, hR, hB⟩)
  go_wp2_with (go_at_call 33; refine (n_ _ _ _ (by decide) hR).mono ?_; rintro e w2 ⟨v, rfl, h0, h1, hR2, hG⟩)
  have hB2 := to_below hB hp hG
  obtain ⟨m, rfl⟩ := Int.eq_ofNat_of_zero_le h0
  have hm : m ≤ 1000 := by omega
  have hm2 : m ≤ 200 := by omega
  go_wp2_with (go_at_call 32; refine (bytes_ _ _ m hm hR2).mono ?_; rintro e w3 ⟨s, rfl, hs, hR3, hG3⟩)
  go_ret
  exact ⟨s, rfl, by omega, to_below hB2 hp hG3⟩
set_option maxHeartbeats 4000000 in
set_option maxRecDepth 100000 in
theorem mac_ (w : World) (ao : Option Addr) (n cap : Nat) (hC : Code w w.heap.size ao n) :
    Calls Try.prog 19 #[.slice ao n cap] w fun e w' => ∃ s t : ByteArray, e = .returned (.tuple #[.string s, .string t]) ∧ s.size ≤ 200 ∧ t.size ≤ 200 ∧ Below w.heap.size w w' := by
  go_enter Try.func19, Try.ntmps19
  go_wp2_with (go_at_call 31; refine (source_ w ao n cap hC).mono ?_; rintro e w1 ⟨p, rfl, hp, hR, hB⟩)
  go_wp2_with (go_at_call 33; refine (n_ _ _ _ (by decide) hR).mono ?_; rintro e w2 ⟨v, rfl, h0, h1, hR2, hG⟩)
  have hB2 := to_below hB hp hG
  obtain ⟨m, rfl⟩ := Int.eq_ofNat_of_zero_le h0
  have hm : m ≤ 1000 := by omega
  have hm2 : m ≤ 200 := by omega
  go_wp2_with (go_at_call 32; refine (bytes_ _ _ m hm hR2).mono ?_; rintro e w3 ⟨s, rfl, hs, hR3, hG3⟩)
  have hB3 := to_below hB2 hp hG3
  clear h0 h1 hR hR2 hG hG3 hB hB2
  go_wp2_with (go_at_call 34; refine (one_ _ _ _ (by decide) hR3).mono ?_; rintro e w4 ⟨b, rfl, hR4, hG4⟩)
  · have hB4 := to_below hB3 hp hG4
    clear hR3 hG4 hB3
    have hs2 : s.size ≤ 200 := by omega
    clear hs
    go_wp2_with (go_at_call 33; refine (n_ _ _ _ (by decide) hR4).mono ?_; rintro e w5 ⟨v, rfl, h0, h1, hR5, hG5⟩)
    have hB5 := to_below hB4 hp hG5
    obtain ⟨m, rfl⟩ := Int.eq_ofNat_of_zero_le h0
    have hm : 63 + m ≤ 66 := by omega
    have hcast : ((63 + m : Nat) : Int) = 63 + (m : Int) := by omega
    have hmk := run_make_row' (P := Try.prog) 36 5 (.int .u8 0) 1 Try.underlying36 info_u8 rfl .i64 .i64 (63 + m) (by omega) (by omega) w5
    rw [hcast] at hmk
    have hcv : (convert 36 9 (.slice (some ⟨w5.heap.size, 0, none⟩) (63 + m) (63 + m))).run Try.prog (w5.alloc (.cells (madeCells #[.int .u8 0] (63 + m)) 5)) = .ok (.string (strOfNums (List.replicate (63 + m) 0))) _ :=
      run_convert_bytes_arg _ 36 5 Try.underlying36 Try.underlying5 w5.heap.size 0 (63 + m) (63 + m) _ (by simp) (fun i hi => by
        rw [Nat.zero_add, cell_of_row _ w5.heap.size i _ _ (0, 0) (heap_alloc_new w5 _), made_at _ _ _ hi]
        simp [hi]) 9 Try.underlying9
    have hs5 : (strOfNums (List.replicate (63 + m) 0)).size ≤ 200 := by rw [strOfNums_size]; simp; omega
    have hR6 := hR5.alloc (.cells (madeCells #[.int .u8 0] (63 + m)) 5)
    have hB6 : Below w.heap.size w (w5.alloc (.cells (madeCells #[.int .u8 0] (63 + m)) 5)) := hB5.alloc hB5.size _
    generalize strOfNums (List.replicate (63 + m) 0) = s5 at *
    generalize w5.alloc (.cells (madeCells #[.int .u8 0] (63 + m)) 5) = w6 at *
    clear hcast h0 h1 hm hR4 hB4 hR5 hG5 hB5
    rw [hmk]
    go_wp2_with fail
    clear hmk hcv
    refine (n_ w6 p 100 (by decide) hR6).mono ?_
    rintro e w7 ⟨v, rfl, h0, h1, hR7, hG7⟩
    have hB7 := to_below hB6 hp hG7
    obtain ⟨k, rfl⟩ := Int.eq_ofNat_of_zero_le h0
    have hk : k ≤ 1000 := by omega
    go_wp2_with (go_at_call 32; refine (bytes_ _ _ k hk hR7).mono ?_; rintro e w8 ⟨t, rfl, ht, hR8, hG8⟩)
    have hB8 := to_below hB7 hp hG8
    go_ret2
    exact ⟨s5, t, rfl, hs5, by omega, hB8⟩
  · have hB4 := to_below hB3 hp hG4
    clear hR3 hG4 hB3
    have hs2 : s.size ≤ 200 := by omega
    clear hs
    go_wp2_with (go_at_call 33; refine (n_ _ _ _ (by decide) hR4).mono ?_; rintro e w5 ⟨v, rfl, h0, h1, hR5, hG5⟩)
    have hB5 := to_below hB4 hp hG5
    obtain ⟨m, rfl⟩ := Int.eq_ofNat_of_zero_le h0
    have hm : m ≤ 1000 := by omega
    go_wp2_with (go_at_call 32; refine (bytes_ _ _ m hm hR5).mono ?_; rintro e w6 ⟨t, rfl, ht, hR6, hG6⟩)
    have hB6 := to_below hB5 hp hG6
    go_ret2
    exact ⟨s, t, rfl, hs2, by omega, hB6⟩
end Dr
end Go.Proofs.Ytlcildmhcohpbaa
