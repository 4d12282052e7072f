/-
  Of what isDomainPart asks: what Trim and Contains say of a text.
-/
import Derived.Test.YtlcildmhcohpbaaGreatDoorJa
namespace Go.Proofs.YtlcildmhcohpbaaGreatDoor
open Go.RowKit
set_option linter.unusedSimpArgs false
set_option linter.unusedVariables false
namespace Jb
open Do
/-- the signs of a domain -/
def signs : ByteArray := ⟨#[97, 98, 99, 100, 101, 102, 103, 104, 105, 106, 107, 108, 109, 110, 111, 112, 113, 114, 115, 116, 117, 118, 119, 120, 121, 122, 48, 49, 50, 51, 52, 53, 54, 55, 56, 57, 46, 45]⟩
theorem ok_signs (b : UInt8) : signs.data.toList.contains b = true ↔ ok (b.toNat : Int) := by
  have h : ∀ k : Fin 256, signs.data.toList.contains (UInt8.ofNat k.val) = decide (ok ((k.val : Nat) : Int)) := by decide +kernel
  have := h ⟨b.toNat, b.toNat_lt⟩
  simp only [UInt8.ofNat_toNat] at this
  rw [this]
  simp
theorem dropWhile_nil {α : Type} (p : α → Bool) (l : List α) : l.dropWhile p = [] ↔ ∀ x ∈ l, p x = true := by
  induction l with
  | nil => simp
  | cons a l ih =>
    rw [List.dropWhile_cons]
    split
    · rename_i h
      rw [ih]
      simp [h]
    · rename_i h
      simp [h]
theorem dw_head {α : Type} (p : α → Bool) (l : List α) : l.dropWhile p = [] ∨ ∃ a r, l.dropWhile p = a :: r ∧ p a = false := by
  induction l with
  | nil => left; rfl
  | cons a l ih =>
    rw [List.dropWhile_cons]
    split
    · exact ih
    · rename_i h
      right
      exact ⟨a, l, rfl, by simpa using h⟩
theorem dw_len {α : Type} (p : α → Bool) (l : List α) : (l.dropWhile p).length ≤ l.length := (List.dropWhile_sublist p).length_le
theorem dw_id {α : Type} (p : α → Bool) (a : α) (l : List α) (h : ((a :: l).dropWhile p).length = (a :: l).length) : p a = false := by
  rw [List.dropWhile_cons] at h
  split at h
  · have := dw_len p l
    simp at h
    omega
  · rename_i hp
    simpa using hp
theorem trimS_nil (l cs : List UInt8) : Lib.trimS l cs = [] ↔ ∀ x ∈ l, cs.contains x = true := by
  unfold Lib.trimS Lib.trimLeftS Lib.trimRightS
  rw [dropWhile_nil]
  constructor
  · intro h
    have hn : l.reverse.dropWhile (cs.contains ·) = [] := by
      rcases dw_head (cs.contains ·) l.reverse with h1 | ⟨a, r, h1, h2⟩
      · exact h1
      · have := h a (by rw [h1]; simp)
        rw [this] at h2
        cases h2
    rw [dropWhile_nil] at hn
    exact fun x hx => hn x (List.mem_reverse.2 hx)
  · intro h x hx
    have := List.mem_reverse.1 hx
    exact h x (List.mem_reverse.1 ((List.dropWhile_sublist _).subset this))
theorem trimS_id (l cs : List UInt8) (a z : UInt8) (r r' : List UInt8) (h1 : l = a :: r) (h2 : l.reverse = z :: r') : Lib.trimS l cs = l ↔ cs.contains a = false ∧ cs.contains z = false := by
  unfold Lib.trimS Lib.trimLeftS Lib.trimRightS
  constructor
  · intro h
    have e1 : (l.reverse.dropWhile (cs.contains ·)).length = l.reverse.length := by
      have a1 := dw_len (cs.contains ·) l.reverse
      have a2 := dw_len (cs.contains ·) (l.reverse.dropWhile (cs.contains ·)).reverse
      rw [h] at a2
      simp at a1 a2 ⊢
      omega
    have e2 : l.reverse.dropWhile (cs.contains ·) = l.reverse := (List.dropWhile_sublist _).eq_of_length e1
    rw [e2, List.reverse_reverse] at h
    refine ⟨dw_id (cs.contains ·) a r (by rw [← h1, h]), dw_id (cs.contains ·) z r' (by rw [← h2, e2])⟩
  · rintro ⟨ha, hz⟩
    rw [h2, List.dropWhile_cons, if_neg (by show ¬ cs.contains z = true; rw [hz]; decide), ← h2, List.reverse_reverse]
    rw [h1, List.dropWhile_cons, if_neg (by show ¬ cs.contains a = true; rw [ha]; decide)]
theorem bt_at (t : ByteArray) (i : Nat) (b : UInt8) (h : t.data.toList[i]? = some b) : Wd.bt t i = (b.toNat : Int) := by
  unfold Wd.bt
  rw [List.getD_eq_getElem?_getD, h]
  rfl
theorem ends_iff (b : UInt8) : ([46, 45] : List UInt8).contains b = false ↔ ¬ ends (b.toNat : Int) := by
  have h : ∀ k : Fin 256, (([46, 45] : List UInt8).contains (UInt8.ofNat k.val) = false ↔ ¬ (((k.val : Nat) : Int) = 46 ∨ ((k.val : Nat) : Int) = 45)) := by decide +kernel
  have := h ⟨b.toNat, b.toNat_lt⟩
  simp only [UInt8.ofNat_toNat] at this
  exact this
theorem is46 (b : UInt8) : b = 46 ↔ (b.toNat : Int) = 46 := by
  constructor
  · rintro rfl
    rfl
  · intro h
    have : b.toNat = 46 := by omega
    exact UInt8.toNat_inj.1 this
theorem occ_two (l : List UInt8) (j : Nat) : Lib.occAt l [46, 46] j = true ↔ l[j]? = some (46 : UInt8) ∧ l[j + 1]? = some (46 : UInt8) := by
  have e0 : (l.drop j)[0]? = l[j]? := by rw [List.getElem?_drop, Nat.add_zero]
  have e1 : (l.drop j)[1]? = l[j + 1]? := by rw [List.getElem?_drop]
  unfold Lib.occAt
  rw [← e0, ← e1]
  cases h : l.drop j with
  | nil => simp
  | cons a r =>
    cases r with
    | nil => simp
    | cons c r =>
      show ((46 : UInt8) == a && ((46 : UInt8) == c && true)) = true ↔ some a = some (46 : UInt8) ∧ some c = some (46 : UInt8)
      rw [Bool.and_true, Bool.and_eq_true, beq_iff_eq, beq_iff_eq, Option.some.injEq, Option.some.injEq]
      exact ⟨fun h => ⟨h.1.symm, h.2.symm⟩, fun h => ⟨h.1.symm, h.2.symm⟩⟩
theorem contains_two (l : List UInt8) : Lib.contains l [46, 46] = false ↔ ∀ j : Nat, ¬ (l[j]? = some (46 : UInt8) ∧ l[j + 1]? = some (46 : UInt8)) := by
  unfold Lib.contains
  rcases Lib.index_spec l [46, 46] with ⟨h1, h2⟩ | ⟨i, h1, h2, h3, _⟩
  · rw [h1]
    constructor
    · intro _ j hj
      have hlt : j < l.length := (List.getElem?_eq_some_iff.1 hj.1).1
      have := h2 j (by omega)
      rw [(occ_two l j).2 hj] at this
      cases this
    · intro _
      decide
  · rw [h1]
    constructor
    · intro h
      simp at h
    · intro h
      exact absurd ((occ_two l i).1 h3) (h i)
/-- what isDomainPart asks -/
def Part (t : ByteArray) : Prop := 1 ≤ t.size ∧ t.size ≤ 30 ∧ Lib.trimS t.data.toList signs.data.toList = [] ∧ Lib.trimS t.data.toList [46, 45] = t.data.toList ∧ Lib.contains t.data.toList [46, 46] = false
theorem part_iff (t : ByteArray) : Part t ↔ Dom t := by
  unfold Part Dom
  by_cases h1 : 1 ≤ t.size
  · have hl : t.data.toList.length = t.size := rfl
    have g0 : t.data.toList[0]? = some (t.data.toList[0]'(by omega)) := List.getElem?_eq_getElem (by omega)
    have gz : t.data.toList[t.size - 1]? = some (t.data.toList[t.size - 1]'(by omega)) := List.getElem?_eq_getElem (by omega)
    have b0 := bt_at t 0 _ g0
    have bz := bt_at t (t.size - 1) _ gz
    have htrim := trimS_id t.data.toList [46, 45] (t.data.toList[0]'(by omega)) (t.data.toList[t.size - 1]'(by omega)) (t.data.toList.drop 1) (t.data.toList.reverse.drop 1)
      (by rw [← List.drop_eq_getElem_cons (i := 0) (by omega)]; rfl)
      (by
        have e : t.data.toList.reverse[0]'(by simp; omega) = t.data.toList[t.size - 1]'(by omega) := by
          rw [List.getElem_reverse]
          congr 1
        rw [← e, ← List.drop_eq_getElem_cons (i := 0) (by simp; omega)]
        rfl)
    rw [trimS_nil, htrim, contains_two, ends_iff, ends_iff, ← b0, ← bz]
    have hall : (∀ x ∈ t.data.toList, signs.data.toList.contains x = true) ↔ ∀ i, i < t.size → ok (Wd.bt t i) := by
      constructor
      · intro h i hi
        have gi : t.data.toList[i]? = some (t.data.toList[i]'(by omega)) := List.getElem?_eq_getElem (by omega)
        rw [bt_at t i _ gi]
        exact (ok_signs _).1 (h _ (List.getElem_mem _))
      · intro h x hx
        obtain ⟨i, hi, rfl⟩ := List.getElem_of_mem hx
        have gi : t.data.toList[i]? = some (t.data.toList[i]) := List.getElem?_eq_getElem hi
        have := h i (by omega)
        rw [bt_at t i _ gi] at this
        exact (ok_signs _).2 this
    rw [hall]
    have at46 : ∀ i, i < t.size → (t.data.toList[i]? = some (46 : UInt8) ↔ Wd.bt t i = 46) := fun i hi => by
      have gi : t.data.toList[i]? = some (t.data.toList[i]'(by omega)) := List.getElem?_eq_getElem (by omega)
      rw [bt_at t i _ gi, gi, Option.some.injEq, is46]
    have hdots : (∀ j : Nat, ¬ (t.data.toList[j]? = some (46 : UInt8) ∧ t.data.toList[j + 1]? = some (46 : UInt8))) ↔ ∀ i, i < t.size → ¬ (0 < i ∧ Wd.bt t i = 46 ∧ Wd.bt t (i - 1) = 46) := by
      constructor
      · intro h i hi hc
        exact h (i - 1) ⟨(at46 (i - 1) (by omega)).2 hc.2.2, by rw [show i - 1 + 1 = i by omega]; exact (at46 i hi).2 hc.2.1⟩
      · intro h j hj
        have hlt : j + 1 < t.size := (List.getElem?_eq_some_iff.1 hj.2).1
        exact h (j + 1) hlt ⟨by omega, (at46 (j + 1) hlt).1 hj.2, (at46 j (by omega)).1 hj.1⟩
    rw [hdots]
    constructor
    · rintro ⟨a, b, c, ⟨d, e⟩, f⟩
      exact ⟨a, b, d, e, fun i hi => ⟨c i hi, f i hi⟩⟩
    · rintro ⟨a, b, d, e, f⟩
      exact ⟨a, b, fun i hi => (f i hi).1, ⟨d, e⟩, fun i hi => (f i hi).2⟩
  · exact ⟨fun h => absurd h.1 h1, fun h => absurd h.1 h1⟩
end Jb
end Go.Proofs.YtlcildmhcohpbaaGreatDoor
