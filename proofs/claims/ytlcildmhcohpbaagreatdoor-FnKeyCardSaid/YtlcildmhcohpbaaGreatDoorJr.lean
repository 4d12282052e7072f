/-
  The program's JidRight, and the text of a Jid.
-/
import Derived.Test.YtlcildmhcohpbaaGreatDoorJc
namespace Go.Proofs.YtlcildmhcohpbaaGreatDoor
open Go.RowKit
set_option linter.unusedSimpArgs false
set_option linter.unusedVariables false
namespace Jr
open Do Jb Ja
/-- the signs of a name -/
def lsigns : ByteArray := ⟨#[97, 98, 99, 100, 101, 102, 103, 104, 105, 106, 107, 108, 109, 110, 111, 112, 113, 114, 115, 116, 117, 118, 119, 120, 121, 122, 48, 49, 50, 51, 52, 53, 54, 55, 56, 57, 46, 95, 45]⟩
def locB (t : ByteArray) : Bool := decide (t.size ≤ 30) && (trimR t lsigns).toList.isEmpty
theorem locB_nil : locB ⟨#[]⟩ = true := by decide +kernel
set_option maxHeartbeats 1000000 in
theorem local_ (t : ByteArray) (w : World) (hs : t.size ≤ 2000000) :
    Calls Tryz.prog 50 #[.string t] w fun e w' => e = .returned (.bool (locB t)) ∧ Below w.heap.size w w' := by
  unfold locB
  by_cases h : t.size ≤ 30
  · have hI : (t.size : Int) ≤ 30 := by omega
    have ho := fun w => only_ t lsigns w (by omega) (by decide) (ascii_of_all (by decide))
    rw [decide_eq_true h, Bool.true_and]
    generalize (trimR t lsigns).toList.isEmpty = q at *
    go_enter Tryz.func50, Tryz.ntmps50
    go_wp2_with (go_at_call 70; refine (ho _).mono ?_; rintro e w2 ⟨rfl, hb2⟩)
    go_ret
    exact ⟨rfl, hb2⟩
  · have hI : ¬ (t.size : Int) ≤ 30 := by omega
    rw [decide_eq_false h, Bool.false_and]
    go_enter Tryz.func50, Tryz.ntmps50
    go_wp2
    go_ret
    exact ⟨rfl, Below.refl _ _⟩
instance (t : ByteArray) (i : Nat) : Decidable (prt t i) := by unfold prt; infer_instance
def resB (t : ByteArray) : Bool := decide (t.size ≤ 30) && (decide (∀ i, i < t.size → prt t i) && !(Lib.containsAny t.data.toList [32, 47, 60, 62, 38, 39, 34]))
theorem resB_nil : resB ⟨#[]⟩ = true := by decide +kernel
set_option maxHeartbeats 2000000 in
theorem resource_ (t : ByteArray) (w : World) (hs : t.size ≤ 2000000) :
    Calls Tryz.prog 52 #[.string t] w fun e w' => e = .returned (.bool (resB t)) ∧ Below w.heap.size w w' := by
  unfold resB
  by_cases h : t.size ≤ 30
  · have hI : (t.size : Int) ≤ 30 := by omega
    rw [decide_eq_true h, Bool.true_and]
    by_cases hp : ∀ i, i < t.size → prt t i
    · have hpr := fun w => print_ t true w h (Lib.hid ⟨fun _ => hp, fun _ => rfl⟩)
      have hca := fun w => Tryz.strings_ContainsAny_laid t ⟨#[32, 47, 60, 62, 38, 39, 34]⟩ w (by omega) (by decide) (ascii_of_prt t hp) (ascii_of_all (by decide))
      rw [decide_eq_true hp, Bool.true_and]
      clear hp
      change ∀ w, Calls Tryz.prog 74 #[.string t, .string ⟨#[32, 47, 60, 62, 38, 39, 34]⟩] w fun e w' => e = .returned (.bool (Lib.containsAny t.data.toList [32, 47, 60, 62, 38, 39, 34])) ∧ Below w.heap.size w w' at hca
      generalize Lib.containsAny t.data.toList [32, 47, 60, 62, 38, 39, 34] = q at *
      go_enter Tryz.func52, Tryz.ntmps52
      go_wp2_with (first | (go_at_call 73; refine (hpr _).mono ?_; rintro e w2 ⟨rfl, rfl⟩) | (go_at_call 74; refine (hca _).mono ?_; rintro e w3 ⟨rfl, hb3⟩))
      go_ret
      exact ⟨rfl, hb3⟩
    · have hpr := fun w => print_ t false w h (Lib.hid ⟨(fun h => Bool.noConfusion h), (fun h => absurd h hp)⟩)
      rw [decide_eq_false hp, Bool.false_and]
      clear hp
      go_enter Tryz.func52, Tryz.ntmps52
      go_wp2_with (go_at_call 73; refine (hpr _).mono ?_; rintro e w2 ⟨rfl, rfl⟩)
      go_ret
      exact ⟨rfl, Below.refl _ _⟩
  · have hI : ¬ (t.size : Int) ≤ 30 := by omega
    rw [decide_eq_false h, Bool.false_and]
    go_enter Tryz.func52, Tryz.ntmps52
    go_wp2
    go_ret
    exact ⟨rfl, Below.refl _ _⟩
theorem la (w : World) (o : Obj) : w.heap.size < (w.alloc o).heap.size := by simp
set_option maxHeartbeats 2000000 in
theorem rightc (a d r : ByteArray) (q1 q2 q3 : Bool) (w : World) (hB0 : 2 < w.heap.size) (m : Int) (hm : w.cell? ⟨2, 0, none⟩ = some (.int .i64 m))
    (h1 : ∀ w, Calls Tryz.prog 50 #[.string a] w fun e w' => e = .returned (.bool q1) ∧ Below w.heap.size w w')
    (h2 : ∀ w, 2 < w.heap.size → w.cell? ⟨2, 0, none⟩ = some (.int .i64 m) → Calls Tryz.prog 51 #[.string d] w fun e w' => e = .returned (.bool q2) ∧ Below w.heap.size w w')
    (h3 : ∀ w, Calls Tryz.prog 52 #[.string r] w fun e w' => e = .returned (.bool q3) ∧ Below w.heap.size w w') :
    Calls Tryz.prog 43 #[.agg #[.string a, .string d, .string r]] w fun e w' => e = .returned (.bool (q1 && (q2 && q3))) ∧ Below w.heap.size w w' := by
  have c1 : (w.alloc (.cells #[.string a, .string d, .string r] 50)).cell? ⟨w.heap.size, 1, none⟩ = some (.string d) := by go_simp
  have c2 : (w.alloc (.cells #[.string a, .string d, .string r] 50)).cell? ⟨w.heap.size, 2, none⟩ = some (.string r) := by go_simp
  have hb1 : Below w.heap.size w (w.alloc (.cells #[.string a, .string d, .string r] 50)) := (Below.refl _ _).alloc (Nat.le_refl _) _
  cases q1 with
  | false =>
    go_enter Tryz.func43, Tryz.ntmps43
    go_wp2_with (go_at_call 50; refine (h1 _).mono ?_; rintro e w2 ⟨rfl, hb2⟩; have d1 := (hb2.cell (p := ⟨w.heap.size, 1, none⟩) (la w _)).trans c1; have d2 := (hb2.cell (p := ⟨w.heap.size, 2, none⟩) (la w _)).trans c2; have hB2 := hb1.trans (hb2.mono hb1.size); have hm2 := (hB2.cell (p := ⟨2, 0, none⟩) hB0).trans hm)
    go_ret
    exact ⟨rfl, hB2⟩
  | true =>
    cases q2 with
    | false =>
      go_enter Tryz.func43, Tryz.ntmps43
      go_wp2_with (first | (go_at_call 50; refine (h1 _).mono ?_; rintro e w2 ⟨rfl, hb2⟩; have d1 := (hb2.cell (p := ⟨w.heap.size, 1, none⟩) (la w _)).trans c1; have d2 := (hb2.cell (p := ⟨w.heap.size, 2, none⟩) (la w _)).trans c2; have hB2 := hb1.trans (hb2.mono hb1.size); have hm2 := (hB2.cell (p := ⟨2, 0, none⟩) hB0).trans hm) | (go_at_call 51; refine (h2 _ (Nat.lt_of_lt_of_le hB0 hB2.size) hm2).mono ?_; rintro e w3 ⟨rfl, hb3⟩; have d3 := (hb3.cell (p := ⟨w.heap.size, 2, none⟩) (Nat.lt_of_lt_of_le (la w _) hb2.size)).trans d2; have hB3 := hB2.trans (hb3.mono hB2.size)))
      go_ret
      exact ⟨rfl, hB3⟩
    | true =>
      go_enter Tryz.func43, Tryz.ntmps43
      go_wp2_with (first | (go_at_call 50; refine (h1 _).mono ?_; rintro e w2 ⟨rfl, hb2⟩; have d1 := (hb2.cell (p := ⟨w.heap.size, 1, none⟩) (la w _)).trans c1; have d2 := (hb2.cell (p := ⟨w.heap.size, 2, none⟩) (la w _)).trans c2; have hB2 := hb1.trans (hb2.mono hb1.size); have hm2 := (hB2.cell (p := ⟨2, 0, none⟩) hB0).trans hm) | (go_at_call 51; refine (h2 _ (Nat.lt_of_lt_of_le hB0 hB2.size) hm2).mono ?_; rintro e w3 ⟨rfl, hb3⟩; have d3 := (hb3.cell (p := ⟨w.heap.size, 2, none⟩) (Nat.lt_of_lt_of_le (la w _) hb2.size)).trans d2; have hB3 := hB2.trans (hb3.mono hB2.size)) | (go_at_call 52; refine (h3 _).mono ?_; rintro e w4 ⟨rfl, hb4⟩; have hB4 := hB3.trans (hb4.mono hB3.size)))
      go_ret
      exact ⟨ret_bool (by simp), hB4⟩
/-- what JidRight answers of a domain -/
noncomputable def domB (d : ByteArray) : Bool := @decide (Dom d) (Classical.propDecidable _)
theorem domB_iff (d : ByteArray) : domB d = true ↔ Dom d := by unfold domB; exact @decide_eq_true_iff _ (Classical.propDecidable _)
noncomputable def rightB (a d r : ByteArray) : Bool := locB a && (domB d && resB r)
theorem right_ (a d r : ByteArray) (w : World) (ha : a.size ≤ 2000000) (hd : d.size ≤ 2000000) (hr : r.size ≤ 2000000) (hB0 : 2 < w.heap.size) (m : Int) (hm : w.cell? ⟨2, 0, none⟩ = some (.int .i64 m)) :
    Calls Tryz.prog 43 #[.agg #[.string a, .string d, .string r]] w fun e w' => e = .returned (.bool (rightB a d r)) ∧ Below w.heap.size w w' :=
  rightc a d r (locB a) (domB d) (resB r) w hB0 m hm (fun w => local_ a w ha) (fun w h0 hm => Jc.part_ d (domB d) w hd h0 m hm (Lib.hid (domB_iff d))) (fun w => resource_ r w hr)
end Jr
end Go.Proofs.YtlcildmhcohpbaaGreatDoor
