/-
  The program's only, isLocal, isPrintable, isResource.
-/
import Derived.Test.YtlcildmhcohpbaaGreatDoorDo
import Derived.Test.YtlcildmhcohpbaaGreatDoorSg
import Derived.Test.YtlcildmhcohpbaaGreatDoorIn
import Derived.Shelf.Strings.SlTrimAscii
namespace Go.Proofs.YtlcildmhcohpbaaGreatDoor
open Go.RowKit
set_option linter.unusedSimpArgs false
set_option linter.unusedVariables false
namespace Ja
def trimR (t signs : ByteArray) : ByteArray := ⟨(Lib.trimS t.data.toList signs.data.toList).toArray⟩
set_option maxHeartbeats 1000000 in
theorem only_ (t signs : ByteArray) (w : World) (hs : t.size ≤ 9223372036854775807) (hcs : signs.size < 4294967281) (hascii : ∀ (j : Nat) b, signs.data.toList[j]? = some b → b.toNat < 128) :
    Calls Tryz.prog 70 #[.string t, .string signs] w fun e w' => e = .returned (.bool (trimR t signs).toList.isEmpty) ∧ Below w.heap.size w w' := by
  have hc := fun w => Tryz.strings_Trim_laid t signs w hs hcs hascii
  change ∀ w, Calls Tryz.prog 71 #[.string t, .string signs] w fun e w' => e = .returned (.string (trimR t signs)) ∧ Below w.heap.size w w' at hc
  generalize trimR t signs = r at *
  clear hascii
  go_enter Tryz.func70, Tryz.ntmps70
  go_wp2_with (go_at_call 71; refine (hc _).mono ?_; rintro e w2 ⟨rfl, hb2⟩)
  go_ret
  exact ⟨rfl, hb2⟩
set_option maxHeartbeats 1000000 in
theorem local_ (t : ByteArray) (w : World) (hs : t.size ≤ 2000000) :
    Calls Tryz.prog 50 #[.string t] w fun e w' => ∃ b, e = .returned (.bool b) ∧ Below w.heap.size w w' := by
  by_cases h : t.size ≤ 30
  · have hI : (t.size : Int) ≤ 30 := by omega
    go_enter Tryz.func50, Tryz.ntmps50
    go_wp2_with (go_at_call 70; refine (only_ _ _ _ (by omega) (by decide) (ascii_of_all (by decide))).mono ?_; rintro e w2 ⟨rfl, hb2⟩)
    go_ret
    exact ⟨_, rfl, hb2⟩
  · have hI : ¬ (t.size : Int) ≤ 30 := by omega
    go_enter Tryz.func50, Tryz.ntmps50
    go_wp2
    go_ret
    first | exact ⟨_, rfl, Below.refl _ _⟩ | exact ⟨.inl rfl, Below.refl _ _⟩
def prt (t : ByteArray) (i : Nat) : Prop := 32 ≤ Wd.bt t i ∧ Wd.bt t i ≤ 126
set_option maxHeartbeats 2000000 in
set_option maxRecDepth 100000 in
theorem print_ (t : ByteArray) (b : Bool) (w : World) (hs : t.size ≤ 30) (hb : Hid (b = true ↔ ∀ i, i < t.size → prt t i)) :
    Calls Tryz.prog 73 #[.string t] w fun e w' => e = .returned (.bool b) ∧ w = w' := by
  go_enter Tryz.func73, Tryz.ntmps73
  go_wp2
  go_loopw [3, 6] (fun _ i wr => ∃ m : Nat, m ≤ t.size ∧ i = .int .i64 (m : Int) ∧ wr = w ∧ ∀ j, j < m → prt t j) (fun _ i _ => t.size - (intOf i).toNat)
  case atStart => exact ⟨0, by omega, rfl, rfl, by omega⟩
  case round =>
    obtain ⟨m, hm, rfl, rfl, hgood⟩ := hrel
    have HG := Lib.hid hgood
    clear hgood
    by_cases hlt : m < t.size
    · have xm := Hx.run_index_str (P := Tryz.prog) Tryz.underlying9 t m hlt .i64 (m : Int) rfl
      have b0 := Wd.bt_lo t m
      have b1 := Wd.bt_hi t m
      by_cases hok : prt t m
      · have HK := Lib.hid hok
        have hin := In.in_yes (Wd.bt t m) 32 126 hok
        clear hok
        generalize Wd.bt t m = c at *
        go_wp2_with (go_at_call 18; refine (hin _).mono ?_; rintro e w2 ⟨rfl, rfl⟩)
        go_roundw
        case rel =>
          refine ⟨m + 1, hlt, by go_num, trivial, fun j hj => ?_⟩
          rcases Nat.lt_or_ge j m with h1 | h1
          · exact HG.out j h1
          · obtain rfl : j = m := by omega
            exact HK.out
        case measure => simp [intOf]; omega
      · have hbf : Hid (b = false) := Lib.hid (by
          cases b with
          | false => rfl
          | true => exact absurd ((hb.out.1 rfl) m hlt) hok)
        have hin := In.in_no (Wd.bt t m) 32 126 hok
        clear hok
        generalize Wd.bt t m = c at *
        go_wp2_with (go_at_call 18; refine (hin _).mono ?_; rintro e w2 ⟨rfl, rfl⟩)
        go_ret
        exact ⟨ret_bool hbf.out.symm, rfl⟩
    · have hms : m = t.size := by omega
      have hmI : ¬ (m : Int) < (t.size : Int) := by omega
      have hbt : Hid (b = true) := Lib.hid (hb.out.2 (fun i hi => HG.out i (by omega)))
      clear hms
      go_wp2
      go_ret
      exact ⟨ret_bool hbt.out.symm, rfl⟩
theorem ascii_of_prt (t : ByteArray) (h : ∀ i, i < t.size → prt t i) : ∀ (j : Nat) b, t.data.toList[j]? = some b → b.toNat < 128 := fun j b hj => by
  have hlt : j < t.size := (List.getElem?_eq_some_iff.1 hj).1
  have h2 := (h j hlt).2
  unfold Wd.bt at h2
  rw [List.getD_eq_getElem?_getD, hj] at h2
  have : ((b.toNat : Nat) : Int) ≤ 126 := h2
  omega
open Classical in
set_option maxHeartbeats 2000000 in
theorem resource_ (t : ByteArray) (w : World) (hs : t.size ≤ 2000000) :
    Calls Tryz.prog 52 #[.string t] w fun e w' => ∃ b, e = .returned (.bool b) ∧ Below w.heap.size w w' := by
  by_cases h : t.size ≤ 30
  · have hI : (t.size : Int) ≤ 30 := by omega
    by_cases hp : ∀ i, i < t.size → prt t i
    · have hpr := fun w => print_ t true w h (Lib.hid ⟨fun _ => hp, fun _ => rfl⟩)
      have hca := fun w => Tryz.strings_ContainsAny_laid t ⟨#[32, 47, 60, 62, 38, 39, 34]⟩ w (by omega) (by decide) (ascii_of_prt t hp) (ascii_of_all (by decide))
      clear hp
      go_enter Tryz.func52, Tryz.ntmps52
      go_wp2_with (first | (go_at_call 73; refine (hpr _).mono ?_; rintro e w2 ⟨rfl, rfl⟩) | (go_at_call 74; refine (hca _).mono ?_; rintro e w3 ⟨rfl, hb3⟩))
      go_ret
      exact ⟨_, rfl, hb3⟩
    · have hpr := fun w => print_ t false w h (Lib.hid ⟨(fun h => Bool.noConfusion h), (fun h => absurd h hp)⟩)
      clear hp
      go_enter Tryz.func52, Tryz.ntmps52
      go_wp2_with (go_at_call 73; refine (hpr _).mono ?_; rintro e w2 ⟨rfl, rfl⟩)
      go_ret
      first | exact ⟨_, rfl, Below.refl _ _⟩ | exact ⟨.inl rfl, Below.refl _ _⟩
  · have hI : ¬ (t.size : Int) ≤ 30 := by omega
    go_enter Tryz.func52, Tryz.ntmps52
    go_wp2
    go_ret
    first | exact ⟨_, rfl, Below.refl _ _⟩ | exact ⟨.inl rfl, Below.refl _ _⟩
end Ja
end Go.Proofs.YtlcildmhcohpbaaGreatDoor
