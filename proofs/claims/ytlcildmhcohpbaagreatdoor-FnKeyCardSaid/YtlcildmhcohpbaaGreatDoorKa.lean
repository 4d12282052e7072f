/-
  Both DbAnswer.
-/
import Derived.Test.YtlcildmhcohpbaaGreatDoorKi
namespace Go.Proofs.YtlcildmhcohpbaaGreatDoor
open Go.RowKit
set_option linter.unusedSimpArgs false
set_option linter.unusedVariables false
namespace Ka
open Do Jr Ji Kd Jz
/-- what both answer -/
noncomputable def A (S T F : ByteArray) (id : Int) (key : ByteArray) : Bool := !key.toList.isEmpty && ((K S T F id).toList == key.toList)
set_option maxHeartbeats 1000000 in
theorem specc (S T F : ByteArray) (id : Int) (key k : ByteArray) (q1 q2 : Bool) (w : World) (h1 : key.toList.isEmpty = q1) (h2 : (k.toList == key.toList) = q2)
    (c : ∀ w, Calls Tryz.prog 6 #[.string S, .string T, .string F, .int .i64 id] w fun e w' => e = .returned (.string k) ∧ Below w.heap.size w w') :
    Calls Tryz.prog 8 #[.string S, .string T, .string F, .int .i64 id, .string key] w fun e w' => e = .returned (.bool (!q1 && q2)) ∧ Below w.heap.size w w' := by
  cases q1 with
  | true =>
    go_enter Tryz.func8, Tryz.ntmps8
    go_wp2_with fail
    go_ret
    exact ⟨rfl, Below.refl _ _⟩
  | false =>
    go_enter Tryz.func8, Tryz.ntmps8
    go_wp2_with (go_at_call 6; refine (c _).mono ?_; rintro e w2 ⟨rfl, hb2⟩)
    go_ret
    exact ⟨rfl, hb2⟩
theorem spec_ (S T F : ByteArray) (id : Int) (key : ByteArray) (w : World) (hs : S.size ≤ 2000000) :
    Calls Tryz.prog 8 #[.string S, .string T, .string F, .int .i64 id, .string key] w fun e w' => e = .returned (.bool (A S T F id key)) ∧ Below w.heap.size w w' :=
  specc S T F id key (K S T F id) _ _ w rfl rfl (fun w => Kd.spec_ S T F id w hs)
theorem four_cells (a b c d : ByteArray) (w : World) (T : TypeId) : ∀ j, j < 4 → (w.alloc (.cells #[.string a, .string b, .string c, .string d] T)).cell? ⟨w.heap.size, j, none⟩ = some (.string ([a, b, c, d].getD j ByteArray.empty)) := fun j hj =>
  match j, hj with
  | 0, _ => cell_of_row _ w.heap.size 0 _ T (0, 0) (heap_alloc_new w _)
  | 1, _ => cell_of_row _ w.heap.size 1 _ T (0, 0) (heap_alloc_new w _)
  | 2, _ => cell_of_row _ w.heap.size 2 _ T (0, 0) (heap_alloc_new w _)
  | 3, _ => cell_of_row _ w.heap.size 3 _ T (0, 0) (heap_alloc_new w _)
set_option maxHeartbeats 2000000 in
theorem implc (S T F : ByteArray) (id : Int) (key k : ByteArray) (q1 l q2 : Bool) (w : World) (m : Int) (hE : Env w m) (h1 : key.toList.isEmpty = q1) (h2 : (key.toList == k.toList) = q2)
    (hlg : Calls Tryz.prog 25 #[.slice (some ⟨w.heap.size, 0, none⟩) 4 4] (w.alloc (.cells #[.string S, .string T, .string F, .string key] 9)) fun e w' => e = .returned (.bool l) ∧ w.alloc (.cells #[.string S, .string T, .string F, .string key] 9) = w')
    (c : ∀ w, Env w m → Calls Tryz.prog 7 #[.string S, .string T, .string F, .int .i64 id] w fun e w' => e = .returned (.string k) ∧ Below w.heap.size w w') :
    Calls Tryz.prog 9 #[.string S, .string T, .string F, .int .i64 id, .string key] w fun e w' => e = .returned (.bool (!q1 && (!l && q2))) ∧ Below w.heap.size w w' := by
  have hb1 : Below w.heap.size w (w.alloc (.cells #[.string S, .string T, .string F, .string key] 9)) := (Below.refl _ _).alloc (Nat.le_refl _) _
  have hE1 := hE.below hb1
  cases q1 with
  | true =>
    go_enter Tryz.func9, Tryz.ntmps9
    go_wp2_with fail
    go_ret
    exact ⟨rfl, Below.refl _ _⟩
  | false =>
    cases l with
    | true =>
      go_enter Tryz.func9, Tryz.ntmps9
      go_wp2_with (go_at_call 25; refine hlg.mono ?_; rintro e w2 ⟨rfl, rfl⟩)
      go_ret
      exact ⟨rfl, hb1⟩
    | false =>
      go_enter Tryz.func9, Tryz.ntmps9
      go_wp2_with (first | (go_at_call 25; refine hlg.mono ?_; rintro e w2 ⟨rfl, rfl⟩) | (go_at_call 7; refine (c _ hE1).mono ?_; rintro e w3 ⟨rfl, hb3⟩))
      go_ret
      exact ⟨rfl, hb1.trans (hb3.mono hb1.size)⟩
theorem K_size (S T F : ByteArray) (id : Int) : (K S T F id).size ≤ 64 := by
  unfold K
  split
  · rw [full_size]; exact Nat.le_refl _
  · exact Nat.zero_le _
theorem okB_size {S T F : ByteArray} {id : Int} (h : okB S T F id = true) : S.size ≤ 100 ∧ T.size ≤ 30 ∧ F.size ≤ 30 := by
  unfold okB at h
  simp only [Bool.and_eq_true, decide_eq_true_eq] at h
  exact ⟨h.1.2, dom_size h.2.1, dom_size h.2.2.1⟩
theorem beq_comm (x y : ByteArray) : (x.toList == y.toList) = (y.toList == x.toList) := by
  rw [Bool.eq_iff_iff]
  simp only [beq_iff_eq]
  exact eq_comm
theorem A_long (S T F : ByteArray) (id : Int) (key : ByteArray) : (!key.toList.isEmpty && (!([S, T, F, key].any fun s => decide (20000 < s.size)) && (key.toList == (K S T F id).toList))) = A S T F id key := by
  unfold A
  rw [beq_comm key]
  cases h1 : key.toList.isEmpty with
  | true => rfl
  | false =>
    cases h2 : ((K S T F id).toList == key.toList) with
    | false => simp
    | true =>
      have e := ba_eq _ _ h2
      have hk : key.size ≤ 64 := by rw [← e]; exact K_size S T F id
      have ho : okB S T F id = true := by
        cases ho : okB S T F id with
        | true => rfl
        | false =>
          rw [K_no ho] at e
          rw [← e, nil_empty] at h1
          cases h1
      have hz := okB_size ho
      have hl : ([S, T, F, key].any fun s => decide (20000 < s.size)) = false := by
        simp only [List.any_cons, List.any_nil, Bool.or_false, Bool.or_eq_false_iff, decide_eq_false_iff_not]
        omega
      rw [hl]
      rfl
theorem impl_ (S T F : ByteArray) (id : Int) (key : ByteArray) (w : World) (m : Int) (hE : Env w m) (hs : S.size ≤ 2000000) (ht : T.size ≤ 2000000) (hf : F.size ≤ 2000000) (hk : key.size ≤ 2000000) :
    Calls Tryz.prog 9 #[.string S, .string T, .string F, .int .i64 id, .string key] w fun e w' => e = .returned (.bool (A S T F id key)) ∧ Below w.heap.size w w' := by
  have hlg := Dx.long_ [S, T, F, key] w.heap.size 4 4 (w.alloc (.cells #[.string S, .string T, .string F, .string key] 9)) rfl (by decide) (fun x hx => by simp at hx; rcases hx with rfl | rfl | rfl | rfl <;> assumption) (four_cells S T F key w _)
  have h := implc S T F id key (K S T F id) _ _ _ w m hE rfl rfl hlg (fun w hE => Ki.impl_ S T F id w m hE hs ht hf)
  rw [A_long] at h
  exact h
end Ka
end Go.Proofs.YtlcildmhcohpbaaGreatDoor
