/-
  The program's isDomainPart.
-/
import Derived.Test.YtlcildmhcohpbaaGreatDoorJb
namespace Go.Proofs.YtlcildmhcohpbaaGreatDoor
open Go.RowKit
set_option linter.unusedSimpArgs false
set_option linter.unusedVariables false
namespace Jc
open Do Jb
theorem toList_data (t : ByteArray) : t.toList = t.data.toList := by rw [ByteArray.toList_eq]
theorem only_iff (t : ByteArray) : (Ja.trimR t signs).toList.isEmpty = true ↔ Lib.trimS t.data.toList signs.data.toList = [] := by
  rw [toList_data]
  unfold Ja.trimR
  simp
theorem trim_iff (t : ByteArray) : ((Ja.trimR t ⟨#[46, 45]⟩).toList == t.toList) = true ↔ Lib.trimS t.data.toList [46, 45] = t.data.toList := by
  rw [toList_data, toList_data, beq_iff_eq]
  rfl
set_option maxHeartbeats 2000000 in
theorem partc (t : ByteArray) (q1 q2 q3 : Bool) (r : ByteArray) (w : World) (h1 : 1 ≤ t.size) (h2 : t.size ≤ 30) (hB0 : 2 < w.heap.size) (m : Int) (hm : w.cell? ⟨2, 0, none⟩ = some (.int .i64 m))
    (honly : ∀ w, Calls Tryz.prog 70 #[.string t, .string signs] w fun e w' => e = .returned (.bool q1) ∧ Below w.heap.size w w')
    (htrim : ∀ w, Calls Tryz.prog 71 #[.string t, .string ⟨#[46, 45]⟩] w fun e w' => e = .returned (.string r) ∧ Below w.heap.size w w') (hq2 : (r.toList == t.toList) = q2)
    (hcon : ∀ w, w.cell? ⟨2, 0, none⟩ = some (.int .i64 m) → Calls Tryz.prog 72 #[.string t, .string ⟨#[46, 46]⟩] w fun e w' => e = .returned (.bool q3) ∧ w' = w) :
    Calls Tryz.prog 51 #[.string t] w fun e w' => e = .returned (.bool (q1 && q2 && !q3)) ∧ Below w.heap.size w w' := by
  have hin := In.in_yes (t.size : Int) 1 30 (by omega)
  cases q1 with
  | false =>
    go_enter Tryz.func51, Tryz.ntmps51
    go_wp2_with (first | (go_at_call 18; refine (hin _).mono ?_; rintro e w2 ⟨rfl, rfl⟩) | (go_at_call 70; refine (honly _).mono ?_; rintro e w3 ⟨rfl, hb3⟩))
    go_ret
    exact ⟨rfl, hb3⟩
  | true =>
    cases q2 with
    | false =>
      go_enter Tryz.func51, Tryz.ntmps51
      go_wp2_with (first | (go_at_call 18; refine (hin _).mono ?_; rintro e w2 ⟨rfl, rfl⟩) | (go_at_call 70; refine (honly _).mono ?_; rintro e w3 ⟨rfl, hb3⟩) | (go_at_call 71; refine (htrim _).mono ?_; rintro e w4 ⟨rfl, hb4⟩))
      go_ret
      exact ⟨rfl, hb3.trans (hb4.mono hb3.size)⟩
    | true =>
      go_enter Tryz.func51, Tryz.ntmps51
      go_wp2_with (first | (go_at_call 18; refine (hin _).mono ?_; rintro e w2 ⟨rfl, rfl⟩) | (go_at_call 70; refine (honly _).mono ?_; rintro e w3 ⟨rfl, hb3⟩) | (go_at_call 71; refine (htrim _).mono ?_; rintro e w4 ⟨rfl, hb4⟩) | (go_at_call 72; refine (hcon _ ((hb4.cell (show 2 < _ from Nat.lt_of_lt_of_le hB0 hb3.size)).trans ((hb3.cell hB0).trans hm))).mono ?_; rintro e w5 ⟨rfl, rfl⟩))
      go_ret
      exact ⟨ret_bool (by simp), hb3.trans (hb4.mono hb3.size)⟩
theorem part_ (t : ByteArray) (b : Bool) (w : World) (hs : t.size ≤ 2000000) (hB0 : 2 < w.heap.size) (m : Int) (hm : w.cell? ⟨2, 0, none⟩ = some (.int .i64 m)) (hb : Hid (b = true ↔ Dom t)) :
    Calls Tryz.prog 51 #[.string t] w fun e w' => e = .returned (.bool b) ∧ Below w.heap.size w w' := by
  have no : ¬ Part t → b = false := fun h => by
    cases b with
    | false => rfl
    | true => exact absurd ((part_iff t).2 (hb.out.1 rfl)) h
  by_cases hsz : 1 ≤ t.size ∧ t.size ≤ 30
  · have h := partc t (Ja.trimR t signs).toList.isEmpty ((Ja.trimR t ⟨#[46, 45]⟩).toList == t.toList) (Lib.contains t.data.toList [46, 46]) (Ja.trimR t ⟨#[46, 45]⟩) w hsz.1 hsz.2 hB0 m hm
      (fun w => Ja.only_ t signs w (by omega) (by decide) (ascii_of_all (by decide))) (fun w => Tryz.strings_Trim_laid t ⟨#[46, 45]⟩ w (by omega) (by decide) (ascii_of_all (by decide))) rfl
      (fun w hm => Tryz.strings_Contains t ⟨#[46, 46]⟩ m w (by omega) hm)
    have e : ((Ja.trimR t signs).toList.isEmpty && ((Ja.trimR t ⟨#[46, 45]⟩).toList == t.toList) && !(Lib.contains t.data.toList [46, 46])) = b := by
      rw [Bool.eq_iff_iff, hb.out, ← part_iff, Bool.and_eq_true, Bool.and_eq_true, only_iff, trim_iff]
      unfold Part
      simp only [Bool.not_eq_true', hsz.1, hsz.2, true_and, and_assoc]
    rw [e] at h
    exact h
  · rw [no (fun h => hsz ⟨h.1, h.2.1⟩)]
    have hin := In.in_no (t.size : Int) 1 30 (by omega)
    go_enter Tryz.func51, Tryz.ntmps51
    go_wp2_with (go_at_call 18; refine (hin _).mono ?_; rintro e w2 ⟨rfl, rfl⟩)
    go_ret
    exact ⟨rfl, Below.refl _ _⟩
end Jc
end Go.Proofs.YtlcildmhcohpbaaGreatDoor
