/-
  A number's digits of ten: the program's decimal and the reference's l01Dec.
-/
import Derived.Test.YtlcildmhcohpbaaGreatDoorProg
import Derived.Test.YtlcildmhcohpbaaGreatDoorBase
import Derived.Test.YtlcildmhcohpbaaGreatDoorSg
import Derived.WalkKit
import Derived.WalkSpells
import Derived.WalkLawsBesides
import Derived.OwnWalk
import Derived.IntWalk
import Derived.Laws.BytesArg
import Derived.Lib.ItoaLen
namespace Go.Proofs.YtlcildmhcohpbaaGreatDoor
open Go.RowKit
set_option linter.unusedSimpArgs false
set_option linter.unusedVariables false
namespace De
def str (l : List UInt8) : ByteArray := ⟨l.toArray⟩
theorem str_size (l : List UInt8) : (str l).size = l.length := by simp [str, ByteArray.size]
theorem str_cons (d : Nat) (hd : d < 10) (l : List UInt8) : strOfNums [48 + (d : Int)] ++ str l = str (UInt8.ofNat (48 + d) :: l) := by
  apply ByteArray.ext
  apply Array.ext'
  have e : (48 + (d : Int)).toNat = 48 + d := by omega
  simp [strOfNums, str, ByteArray.data_append, e]
def dec (N : Nat) : ByteArray := str (Lib.decDigits N)
theorem digits_len (N : Nat) (h : N ≤ 1000000000) : (Lib.decDigits N).length ≤ 21 := by
  have := Lib.itoa_length_le (N : Int) (by omega) (by omega)
  unfold Lib.itoa at this
  rw [if_neg (by omega)] at this
  simpa using this
theorem step_ (N u : Nat) (l : List UInt8) (hu : 0 < u) (h : Lib.decDigits N = Lib.decDigits u ++ l) :
    (0 < u / 10 ∧ Lib.decDigits N = Lib.decDigits (u / 10) ++ (UInt8.ofNat (48 + u % 10) :: l)) ∨ (u / 10 = 0 ∧ UInt8.ofNat (48 + u % 10) :: l = Lib.decDigits N) := by
  by_cases h10 : u < 10
  · right
    rw [h, Lib.decDigits_one h10, Nat.mod_eq_of_lt h10]
    exact ⟨by omega, rfl⟩
  · left
    refine ⟨by omega, ?_⟩
    rw [h, Lib.decDigits, dif_neg h10, List.append_assoc]
    rfl
set_option maxHeartbeats 2000000 in
set_option maxRecDepth 100000 in
theorem spec_ (N : Nat) (w : World) (h1 : 1 ≤ N) (h2 : N ≤ 1000000000) : Calls Tryz.prog 17 #[.int .i64 (N : Int)] w fun e w' => e = .returned (.string (dec N)) ∧ Below w.heap.size w w' := by
  have hcv := fun (n : Int) (w : World) => conv_one (P := Tryz.prog) Tryz.underlying25 Tryz.underlying5 Tryz.underlying9 n w
  go_enter Tryz.func17, Tryz.ntmps17
  go_wp2
  go_loopw [0, 4, 5] (fun n o _ wr => ∃ (u : Nat) (l : List UInt8), n = .int .i64 (u : Int) ∧ o = .string (str l) ∧ u ≤ 1000000000 ∧ ((0 < u ∧ Lib.decDigits N = Lib.decDigits u ++ l) ∨ (u = 0 ∧ l = Lib.decDigits N)) ∧ Below w.heap.size w wr)
    (fun n _ _ _ => (intOf n).toNat)
  case atStart => exact ⟨N, [], rfl, rfl, h2, .inl ⟨by omega, by simp⟩, Below.refl _ _⟩
  case round =>
    obtain ⟨u, l, rfl, rfl, hu, hrest, hB⟩ := hrel
    by_cases h0 : u = 0
    · subst h0
      have hl : l = Lib.decDigits N := by
        rcases hrest with ⟨h, _⟩ | ⟨_, h⟩
        · omega
        · exact h
      have HD : Hid (str l = dec N) := Lib.hid (by rw [hl]; rfl)
      clear hrest hl
      generalize str l = res at *
      go_wp2
      go_ret
      exact ⟨ret_str HD.out, hB⟩
    · have hpos : 0 < u := by omega
      have hd : Lib.decDigits N = Lib.decDigits u ++ l := by
        rcases hrest with ⟨_, h⟩ | ⟨h, _⟩
        · exact h
        · omega
      have hlen : (str l).size ≤ 21 := by
        have := digits_len N h2
        rw [hd, List.length_append] at this
        rw [str_size]
        omega
      have HS := Lib.hid (step_ N u l hpos hd)
      have hmod : u % 10 < 10 := Nat.mod_lt _ (by omega)
      have HC := Lib.hid (str_cons (u % 10) hmod l)
      have e1 : (u : Int) % 10 = ((u % 10 : Nat) : Int) := by omega
      have e2 : (u : Int) / 10 = ((u / 10 : Nat) : Int) := by omega
      have hne : ¬ (u : Int) = 0 := by omega
      have hdec : u / 10 < u := by omega
      have hsz : (strOfNums [48 + ((u % 10 : Nat) : Int)]).size = 1 := strOfNums_size _
      clear hd hrest
      generalize u % 10 = d at *
      generalize u / 10 = u2 at *
      generalize str l = sl at *
      go_wp2
      go_roundw
      case rel => exact ⟨u2, UInt8.ofNat (48 + d) :: l, rfl, by rw [HC.out], by omega, HS.out, hB.alloc hB.size _⟩
      case measure => simp [intOf]; omega
theorem tab_keep {P : Program} {w w' : World} {name : String} {g B : Nat} {k : IntKind} {zs : List Int} (hg : P.globalNamed name = some g) (h : Lib.TabIs P w name k zs) (hb : Below B w w') (hB : g < B) : Lib.TabIs P w' name k zs := by
  unfold Lib.TabIs World.var? at h ⊢
  rw [hg] at h ⊢
  simp only [Option.bind_some] at h ⊢
  rw [hb.block g hB]
  exact h
theorem below_grow {w : World} (k : Nat) (os : Array Obj) : Below w.heap.size w (Go.Sort.grow (w.drewN k) os) :=
  ⟨rfl, rfl, rfl, by show w.heap.size ≤ (w.heap ++ os).size; simp, fun i hi => by show (w.heap ++ os)[i]? = w.heap[i]?; rw [Array.getElem?_append, if_pos hi]⟩
set_option maxHeartbeats 2000000 in
theorem impl_ (N : Nat) (w : World) (h2 : N ≤ 1000000000) (htab : Lib.TabIs Tryz.prog w "internal/strconv.uint64pow10" .u64 Lib.pow10Tab) : Calls Tryz.prog 24 #[.int .i64 (N : Int)] w fun e w' => e = .returned (.string (dec N)) ∧ Below w.heap.size w w' := by
  have hc := Tryz.internal_strconv_FormatInt_10 (N : Int) (by omega) (by omega) w htab
  have e : (⟨(Lib.itoa (N : Int)).toArray⟩ : ByteArray) = dec N := by
    unfold Lib.itoa
    rw [if_neg (by omega), Int.toNat_natCast]
    rfl
  rw [e] at hc
  clear htab e
  generalize dec N = res at *
  go_enter Tryz.func24, Tryz.ntmps24
  go_wp2_with (first | (go_at_call 48; refine hc.mono ?_; rintro e w2 ⟨rfl, k, os, rfl⟩) | go_in)
  have hb := below_grow (w := w) k os
  generalize Go.Sort.grow (w.drewN k) os = w2 at *
  go_ret
  exact ⟨rfl, hb⟩
end De
end Go.Proofs.YtlcildmhcohpbaaGreatDoor
