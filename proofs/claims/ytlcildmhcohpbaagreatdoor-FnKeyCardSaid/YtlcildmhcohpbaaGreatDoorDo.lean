/-
  The reference's l03Plain, l03Domain, l05Domain, l03Is.
-/
import Derived.Test.YtlcildmhcohpbaaGreatDoorHx
namespace Go.Proofs.YtlcildmhcohpbaaGreatDoor
open Go.RowKit
set_option linter.unusedSimpArgs false
set_option linter.unusedVariables false
namespace Do
/-- a sign that a domain may have -/
def ok (c : Int) : Prop := (97 ≤ c ∧ c ≤ 122) ∨ (48 ≤ c ∧ c ≤ 57) ∨ c = 46 ∨ c = 45
instance (c : Int) : Decidable (ok c) := by unfold ok; infer_instance
set_option maxHeartbeats 2000000 in
set_option maxRecDepth 100000 in
theorem tail_ (c : Int) (w : World) (h3 : c < 48 ∨ (57 < c ∧ c < 97) ∨ 122 < c) : Calls Tryz.prog 39 #[.int .u8 c, .string ⟨#[46, 45]⟩] w fun e w' => e = .returned (.bool (decide (c = 46 ∨ c = 45))) ∧ w = w' := by
  have hix := fun i (hi : i < 2) => Hx.run_index_str (P := Tryz.prog) Tryz.underlying9 ⟨#[46, 45]⟩ i hi .i64 (i : Int) rfl
  have x0 : ∀ w, (Instr.index 9 (.string ⟨#[46, 45]⟩) (.int .i64 0)).run Tryz.prog w = .ok (.int .u8 46) w := hix 0 (by omega)
  have x1 : ∀ w, (Instr.index 9 (.string ⟨#[46, 45]⟩) (.int .i64 1)).run Tryz.prog w = .ok (.int .u8 45) w := hix 1 (by omega)
  clear hix
  rcases h3 with h | ⟨h, h'⟩ | h
  all_goals
    go_enter Tryz.func39, Tryz.ntmps39
    go_wp2
    go_loopw [5] (fun i wr => ∃ m : Nat, m ≤ 2 ∧ i = .int .i64 (m : Int) ∧ wr = w ∧ (1 ≤ m → c ≠ 46) ∧ (2 ≤ m → c ≠ 45)) (fun i _ => 2 - (intOf i).toNat)
    case atStart => exact ⟨0, by omega, rfl, rfl, by omega, by omega⟩
    case round =>
      obtain ⟨m, hm, rfl, rfl, h46, h45⟩ := hrel
      rcases (show m = 0 ∨ m = 1 ∨ m = 2 by omega) with rfl | rfl | rfl
      · by_cases hc : c = 46
        · have E := Lib.hid (decide_eq_true (p := c = 46 ∨ c = 45) (.inl hc))
          subst hc
          clear h46 h45
          go_wp2
          go_ret
          exact ⟨ret_bool E.out.symm, rfl⟩
        · have hc2 : ¬ 46 = c := fun h => hc h.symm
          clear h46 h45
          go_wp2
          go_roundw
          case rel => exact ⟨1, by omega, rfl, trivial, fun _ => hc, by omega⟩
          case measure => simp [intOf]
      · by_cases hc : c = 45
        · have E := Lib.hid (decide_eq_true (p := c = 46 ∨ c = 45) (.inr hc))
          subst hc
          clear h46 h45
          go_wp2
          go_ret
          exact ⟨ret_bool E.out.symm, rfl⟩
        · have hc2 : ¬ 45 = c := fun h => hc h.symm
          have hx := Lib.hid (h46 (by omega))
          clear h46 h45
          go_wp2
          go_roundw
          case rel => exact ⟨2, by omega, rfl, trivial, fun _ => hx.out, fun _ => hc⟩
          case measure => simp [intOf]
      · have E := Lib.hid (decide_eq_false (p := c = 46 ∨ c = 45) (by
          rintro (h | h)
          · exact h46 (by omega) h
          · exact h45 (by omega) h))
        clear h46 h45
        go_wp2
        go_ret
        exact ⟨ret_bool E.out.symm, rfl⟩
theorem plain_ (c : Int) (w : World) : Calls Tryz.prog 39 #[.int .u8 c, .string ⟨#[46, 45]⟩] w fun e w' => e = .returned (.bool (decide (ok c))) ∧ w = w' := by
  by_cases h1 : 97 ≤ c ∧ c ≤ 122
  · have e : decide (ok c) = true := decide_eq_true (.inl h1)
    rw [e]
    obtain ⟨h1, h2⟩ := h1
    go_enter Tryz.func39, Tryz.ntmps39
    go_wp2
    go_ret
    exact ⟨rfl, rfl⟩
  · by_cases h2 : 48 ≤ c ∧ c ≤ 57
    · have e : decide (ok c) = true := decide_eq_true (.inr (.inl h2))
      rw [e]
      obtain ⟨h2, h3⟩ := h2
      have h4 : ¬ (97 : Int) ≤ c := by omega
      go_enter Tryz.func39, Tryz.ntmps39
      go_wp2
      go_ret
      exact ⟨rfl, rfl⟩
    · have HE : Hid (decide (ok c) = decide (c = 46 ∨ c = 45)) := Lib.hid (by
        by_cases h : c = 46 ∨ c = 45
        · rw [decide_eq_true h, decide_eq_true (.inr (.inr h))]
        · rw [decide_eq_false h, decide_eq_false (by
            rintro (h' | h' | h')
            · exact h1 h'
            · exact h2 h'
            · exact h h')])
      rw [HE.out]
      clear HE
      have h3 : c < 48 ∨ (57 < c ∧ c < 97) ∨ 122 < c := by omega
      clear h1 h2
      exact tail_ c w h3
/-- the ends of a domain -/
def ends (c : Int) : Prop := c = 46 ∨ c = 45
/-- every sign may stand where it stands -/
def good (t : ByteArray) (i : Nat) : Prop := ok (Wd.bt t i) ∧ ¬ (0 < i ∧ Wd.bt t i = 46 ∧ Wd.bt t (i - 1) = 46)
def Dom (t : ByteArray) : Prop := 1 ≤ t.size ∧ t.size ≤ 30 ∧ ¬ ends (Wd.bt t 0) ∧ ¬ ends (Wd.bt t (t.size - 1)) ∧ ∀ i, i < t.size → good t i
theorem more {t : ByteArray} {m : Nat} (h : ∀ j, j < m → good t j) (hm : good t m) : ∀ j, j < m + 1 → good t j := fun j hj => by
  rcases Nat.lt_or_ge j m with h1 | h1
  · exact h j h1
  · obtain rfl : j = m := by omega
    exact hm
set_option maxHeartbeats 4000000 in
set_option maxRecDepth 100000 in
/-- its first and last signs, and its size, are right -/
theorem mid_ (t : ByteArray) (w : World) (b : Bool) (h1 : 1 ≤ t.size) (h2 : t.size ≤ 30) (h3 : Hid (¬ ends (Wd.bt t 0))) (h4 : Hid (¬ ends (Wd.bt t (t.size - 1)))) (hb : Hid (b = true ↔ ∀ i, i < t.size → good t i)) :
    Calls Tryz.prog 31 #[.string t] w fun e w' => e = .returned (.bool b) ∧ w = w' := by
  have e1 : ((t.size : Int) - 1) = ((t.size - 1 : Nat) : Int) := by omega
  have x0 : ∀ w, (Instr.index 9 (.string t) (.int .i64 0)).run Tryz.prog w = .ok (.int .u8 (Wd.bt t 0)) w := Hx.run_index_str (P := Tryz.prog) Tryz.underlying9 t 0 (by omega) .i64 0 rfl
  have x1 := Hx.run_index_str (P := Tryz.prog) Tryz.underlying9 t (t.size - 1) (by omega) .i64 ((t.size : Int) - 1) e1
  have n1 : ¬ Wd.bt t 0 = 46 := fun h => h3.out (.inl h)
  have n2 : ¬ Wd.bt t 0 = 45 := fun h => h3.out (.inr h)
  have n3 : ¬ Wd.bt t (t.size - 1) = 46 := fun h => h4.out (.inl h)
  have n4 : ¬ Wd.bt t (t.size - 1) = 45 := fun h => h4.out (.inr h)
  have m1 : (Wd.bt t 0 == 46) = false := by simp [n1]
  have m2 : (Wd.bt t 0 == 45) = false := by simp [n2]
  have m3 : (Wd.bt t (t.size - 1) == 46) = false := by simp [n3]
  have m4 : (Wd.bt t (t.size - 1) == 45) = false := by simp [n4]
  have hI1 : (1 : Int) ≤ (t.size : Int) := by omega
  have hI2 : (t.size : Int) ≤ 30 := by omega
  clear e1 n1 n2 n3 n4
  go_enter Tryz.func31, Tryz.ntmps31
  go_wp2
  clear x0 x1 m1 m2 m3 m4
  go_loopw [4] (fun i wr => ∃ m : Nat, m ≤ t.size ∧ i = .int .i64 (m : Int) ∧ wr = w ∧ ∀ j, j < m → good t j) (fun i _ => t.size - (intOf i).toNat)
  case atStart => exact ⟨0, by omega, rfl, rfl, by omega⟩
  case round =>
    obtain ⟨m, hm, rfl, rfl, hgood⟩ := hrel
    have HG := Lib.hid hgood
    clear hgood
    by_cases hlt : m < t.size
    · have xm := Hx.run_index_str (P := Tryz.prog) Tryz.underlying9 t m hlt .i64 (m : Int) rfl
      by_cases hok : ok (Wd.bt t m)
      · have hd : decide (ok (Wd.bt t m)) = true := decide_eq_true hok
        by_cases h0 : m = 0
        · have hz : ¬ (0 : Int) < (m : Int) := by omega
          have hg0 : Hid (good t m) := Lib.hid ⟨hok, by omega⟩
          clear hok h0
          generalize Wd.bt t m = c at *
          go_wp2_with (go_at_call 39; refine (plain_ _ _).mono ?_; rintro e w2 ⟨rfl, rfl⟩)
          go_roundw
          case rel => exact ⟨m + 1, hlt, by go_num, trivial, more HG.out hg0.out⟩
          case measure => simp [intOf]; omega
        · have hpos : (0 : Int) < (m : Int) := by omega
          have em : (m : Int) - 1 = ((m - 1 : Nat) : Int) := by omega
          have xp := Hx.run_index_str (P := Tryz.prog) Tryz.underlying9 t (m - 1) (by omega) .i64 ((m : Int) - 1) em
          clear em
          by_cases hc : Wd.bt t m = 46
          · by_cases hc2 : Wd.bt t (m - 1) = 46
            · have hbf : Hid (b = false) := Lib.hid (by
                cases b with
                | false => rfl
                | true => exact absurd ⟨by omega, hc, hc2⟩ ((hb.out.1 rfl) m hlt).2)
              have k1 : (Wd.bt t m == 46) = true := by simp [hc]
              have k2 : (Wd.bt t (m - 1) == 46) = true := by simp [hc2]
              clear hok hc hc2
              generalize Wd.bt t m = c at *
              generalize Wd.bt t (m - 1) = c2 at *
              go_wp2_with (go_at_call 39; refine (plain_ _ _).mono ?_; rintro e w2 ⟨rfl, rfl⟩)
              go_ret
              exact ⟨ret_bool hbf.out.symm, rfl⟩
            · have hgm : Hid (good t m) := Lib.hid ⟨hok, fun h => hc2 h.2.2⟩
              have k1 : (Wd.bt t m == 46) = true := by simp [hc]
              have k2 : (Wd.bt t (m - 1) == 46) = false := by simp [hc2]
              clear hok hc hc2
              generalize Wd.bt t m = c at *
              generalize Wd.bt t (m - 1) = c2 at *
              go_wp2_with (go_at_call 39; refine (plain_ _ _).mono ?_; rintro e w2 ⟨rfl, rfl⟩)
              go_roundw
              case rel => exact ⟨m + 1, hlt, by go_num, trivial, more HG.out hgm.out⟩
              case measure => simp [intOf]; omega
          · have hgm : Hid (good t m) := Lib.hid ⟨hok, fun h => hc h.2.1⟩
            have k1 : (Wd.bt t m == 46) = false := by simp [hc]
            clear hok hc
            generalize Wd.bt t m = c at *
            go_wp2_with (go_at_call 39; refine (plain_ _ _).mono ?_; rintro e w2 ⟨rfl, rfl⟩)
            go_roundw
            case rel => exact ⟨m + 1, hlt, by go_num, trivial, more HG.out hgm.out⟩
            case measure => simp [intOf]; omega
      · have hd : decide (ok (Wd.bt t m)) = false := decide_eq_false hok
        have hbf : Hid (b = false) := Lib.hid (by
          cases b with
          | false => rfl
          | true => exact absurd ((hb.out.1 rfl) m hlt).1 hok)
        clear hok
        generalize Wd.bt t m = c at *
        go_wp2_with (go_at_call 39; refine (plain_ _ _).mono ?_; rintro e w2 ⟨rfl, rfl⟩)
        go_ret
        exact ⟨ret_bool hbf.out.symm, rfl⟩
    · have hms : m = t.size := by omega
      have hmI : ¬ (m : Int) < (t.size : Int) := by omega
      have hbt : Hid (b = true) := Lib.hid (hb.out.2 (fun i hi => HG.out i (by omega)))
      clear hms
      go_wp2
      go_ret
      exact ⟨ret_bool hbt.out.symm, rfl⟩
set_option maxHeartbeats 4000000 in
theorem bad_a (t : ByteArray) (w : World) (h : t.size < 1) :
    Calls Tryz.prog 31 #[.string t] w fun e w' => e = .returned (.bool false) ∧ w = w' := by
  have hI : (t.size : Int) < 1 := by omega
  go_enter Tryz.func31, Tryz.ntmps31
  go_wp2
  go_ret
  exact ⟨rfl, rfl⟩
set_option maxHeartbeats 4000000 in
theorem bad_b (t : ByteArray) (w : World) (h : 30 < t.size) :
    Calls Tryz.prog 31 #[.string t] w fun e w' => e = .returned (.bool false) ∧ w = w' := by
  have hI : (30 : Int) < (t.size : Int) := by omega
  have hI1 : (1 : Int) ≤ (t.size : Int) := by omega
  go_enter Tryz.func31, Tryz.ntmps31
  go_wp2
  go_ret
  exact ⟨rfl, rfl⟩
set_option maxHeartbeats 4000000 in
theorem bad_c (t : ByteArray) (w : World) (h1 : 1 ≤ t.size) (h2 : t.size ≤ 30) (h : Wd.bt t 0 = 46) :
    Calls Tryz.prog 31 #[.string t] w fun e w' => e = .returned (.bool false) ∧ w = w' := by
  have x0 : ∀ w, (Instr.index 9 (.string t) (.int .i64 0)).run Tryz.prog w = .ok (.int .u8 (Wd.bt t 0)) w := Hx.run_index_str (P := Tryz.prog) Tryz.underlying9 t 0 (by omega) .i64 0 rfl
  have hI1 : (1 : Int) ≤ (t.size : Int) := by omega
  have hI2 : (t.size : Int) ≤ 30 := by omega
  have m1 : (Wd.bt t 0 == 46) = true := by simp [h]
  clear h
  generalize Wd.bt t 0 = c at *
  go_enter Tryz.func31, Tryz.ntmps31
  go_wp2
  go_ret
  exact ⟨rfl, rfl⟩
set_option maxHeartbeats 4000000 in
theorem bad_d (t : ByteArray) (w : World) (h1 : 1 ≤ t.size) (h2 : t.size ≤ 30) (hn : ¬ Wd.bt t 0 = 46) (h : Wd.bt t 0 = 45) :
    Calls Tryz.prog 31 #[.string t] w fun e w' => e = .returned (.bool false) ∧ w = w' := by
  have x0 : ∀ w, (Instr.index 9 (.string t) (.int .i64 0)).run Tryz.prog w = .ok (.int .u8 (Wd.bt t 0)) w := Hx.run_index_str (P := Tryz.prog) Tryz.underlying9 t 0 (by omega) .i64 0 rfl
  have hI1 : (1 : Int) ≤ (t.size : Int) := by omega
  have hI2 : (t.size : Int) ≤ 30 := by omega
  have m1 : (Wd.bt t 0 == 46) = false := by simp [hn]
  have m2 : (Wd.bt t 0 == 45) = true := by simp [h]
  clear h hn
  generalize Wd.bt t 0 = c at *
  go_enter Tryz.func31, Tryz.ntmps31
  go_wp2
  go_ret
  exact ⟨rfl, rfl⟩
set_option maxHeartbeats 4000000 in
theorem bad_e (t : ByteArray) (w : World) (h1 : 1 ≤ t.size) (h2 : t.size ≤ 30) (hn : ¬ ends (Wd.bt t 0)) (h : Wd.bt t (t.size - 1) = 46) :
    Calls Tryz.prog 31 #[.string t] w fun e w' => e = .returned (.bool false) ∧ w = w' := by
  have x0 : ∀ w, (Instr.index 9 (.string t) (.int .i64 0)).run Tryz.prog w = .ok (.int .u8 (Wd.bt t 0)) w := Hx.run_index_str (P := Tryz.prog) Tryz.underlying9 t 0 (by omega) .i64 0 rfl
  have e1 : ((t.size : Int) - 1) = ((t.size - 1 : Nat) : Int) := by omega
  have x1 := Hx.run_index_str (P := Tryz.prog) Tryz.underlying9 t (t.size - 1) (by omega) .i64 ((t.size : Int) - 1) e1
  clear e1
  have hI1 : (1 : Int) ≤ (t.size : Int) := by omega
  have hI2 : (t.size : Int) ≤ 30 := by omega
  have m1 : (Wd.bt t 0 == 46) = false := by simp; exact fun h => hn (.inl h)
  have m2 : (Wd.bt t 0 == 45) = false := by simp; exact fun h => hn (.inr h)
  have m3 : (Wd.bt t (t.size - 1) == 46) = true := by simp [h]
  clear h hn
  generalize Wd.bt t 0 = c at *
  generalize Wd.bt t (t.size - 1) = c2 at *
  go_enter Tryz.func31, Tryz.ntmps31
  go_wp2
  go_ret
  exact ⟨rfl, rfl⟩
set_option maxHeartbeats 4000000 in
theorem bad_f (t : ByteArray) (w : World) (h1 : 1 ≤ t.size) (h2 : t.size ≤ 30) (hn : ¬ ends (Wd.bt t 0)) (hn2 : ¬ Wd.bt t (t.size - 1) = 46) (h : Wd.bt t (t.size - 1) = 45) :
    Calls Tryz.prog 31 #[.string t] w fun e w' => e = .returned (.bool false) ∧ w = w' := by
  have x0 : ∀ w, (Instr.index 9 (.string t) (.int .i64 0)).run Tryz.prog w = .ok (.int .u8 (Wd.bt t 0)) w := Hx.run_index_str (P := Tryz.prog) Tryz.underlying9 t 0 (by omega) .i64 0 rfl
  have e1 : ((t.size : Int) - 1) = ((t.size - 1 : Nat) : Int) := by omega
  have x1 := Hx.run_index_str (P := Tryz.prog) Tryz.underlying9 t (t.size - 1) (by omega) .i64 ((t.size : Int) - 1) e1
  clear e1
  have hI1 : (1 : Int) ≤ (t.size : Int) := by omega
  have hI2 : (t.size : Int) ≤ 30 := by omega
  have m1 : (Wd.bt t 0 == 46) = false := by simp; exact fun h => hn (.inl h)
  have m2 : (Wd.bt t 0 == 45) = false := by simp; exact fun h => hn (.inr h)
  have m3 : (Wd.bt t (t.size - 1) == 46) = false := by simp [hn2]
  have m4 : (Wd.bt t (t.size - 1) == 45) = true := by simp [h]
  clear h hn hn2
  generalize Wd.bt t 0 = c at *
  generalize Wd.bt t (t.size - 1) = c2 at *
  go_enter Tryz.func31, Tryz.ntmps31
  go_wp2
  go_ret
  exact ⟨rfl, rfl⟩
theorem domain_ (t : ByteArray) (b : Bool) (w : World) (hb : Hid (b = true ↔ Dom t)) :
    Calls Tryz.prog 31 #[.string t] w fun e w' => e = .returned (.bool b) ∧ w = w' := by
  have no : ¬ Dom t → b = false := fun h => by
    cases b with
    | false => rfl
    | true => exact absurd (hb.out.1 rfl) h
  by_cases h1 : 1 ≤ t.size
  · by_cases h2 : t.size ≤ 30
    · by_cases h3 : ends (Wd.bt t 0)
      · rw [no (fun h => h.2.2.1 h3)]
        by_cases h46 : Wd.bt t 0 = 46
        · exact bad_c t w h1 h2 h46
        · exact bad_d t w h1 h2 h46 (h3.resolve_left h46)
      · by_cases h4 : ends (Wd.bt t (t.size - 1))
        · rw [no (fun h => h.2.2.2.1 h4)]
          by_cases h46 : Wd.bt t (t.size - 1) = 46
          · exact bad_e t w h1 h2 h3 h46
          · exact bad_f t w h1 h2 h3 h46 (h4.resolve_left h46)
        · exact mid_ t w b h1 h2 (Lib.hid h3) (Lib.hid h4) (Lib.hid (hb.out.trans ⟨fun h => h.2.2.2.2, fun h => ⟨h1, h2, h3, h4, h⟩⟩))
    · rw [no (fun h => h2 h.2.1)]
      exact bad_b t w (by omega)
  · rw [no (fun h => h1 h.1)]
    exact bad_a t w (by omega)
theorem l05_ (t : ByteArray) (b : Bool) (w : World) (hb : Hid (b = true ↔ Dom t)) :
    Calls Tryz.prog 12 #[.string t] w fun e w' => e = .returned (.bool b) ∧ w = w' := by
  have hd := fun w => domain_ t b w hb
  go_enter Tryz.func12, Tryz.ntmps12
  go_wp2_with (go_at_call 31; refine (hd _).mono ?_; rintro e w2 ⟨rfl, rfl⟩)
  go_ret
  exact ⟨rfl, rfl⟩
end Do
end Go.Proofs.YtlcildmhcohpbaaGreatDoor
