/-
  A row of bytes that may have come of a conversion: append of one byte to it; the padding of a text as a list of numbers.
-/
import Derived.Test.YtlcildmhcohpbaaGreatDoorBase
import Derived.Test.YtlcildmhcohpbaaGreatDoorPd
import Derived.Lib.ConvBytes
import Derived.ArgAppend
import Derived.Deep.AppendLies
import Derived.Laws.IdiomCopy
namespace Go.Proofs.YtlcildmhcohpbaaGreatDoor
open Go.RowKit
set_option linter.unusedSimpArgs false
set_option linter.unusedVariables false
namespace Rw
/-- block g, from B on, reads as the m bytes xs; it has room up to cap, and may be written -/
structure Row (w : World) (B g cap m : Nat) (xs : List Int) : Prop where
  len : xs.length = m
  base : B ≤ g
  lt : g < w.heap.size
  le : m ≤ cap
  cell : ∀ j, j < m → w.cell? ⟨g, j, none⟩ = some (.int .u8 (xs.getD j 0))
  some : ∀ j, j < cap → (w.cell? ⟨g, j, none⟩).isSome = true
  free : ∀ j, w.frozen? ⟨g, j, none⟩ = false ∨ cap ≤ j

variable {w w' : World} {B g cap m : Nat} {xs : List Int}
theorem Row.keep (h : Row w B g cap m xs) (hb : w'.heap[g]? = w.heap[g]?) (hs : w.heap.size ≤ w'.heap.size) : Row w' B g cap m xs :=
  ⟨h.len, h.base, by have := h.lt; omega, h.le, fun j hj => (World.cell?_of_block (w := w) hb).trans (h.cell j hj), fun j hj => by rw [World.cell?_of_block (w := w) (a := ⟨g, j, none⟩) hb]; exact h.some j hj,
    fun j => by rw [World.frozen?_of_block (w := w) (a := ⟨g, j, none⟩) hb]; exact h.free j⟩
theorem Row.alloc (h : Row w B g cap m xs) (o : Obj) : Row (w.alloc o) B g cap m xs := h.keep (Below.heap_alloc w o g h.lt) (by simp)
theorem Row.drew (h : Row w B g cap m xs) : Row w.drew B g cap m xs := h.keep rfl (Nat.le_refl _)
theorem Row.below {C : Nat} (h : Row w B g cap m xs) (hb : Below C w w') (hg : g < C) : Row w' B g cap m xs := h.keep (hb.block g hg) hb.size
theorem Row.of_own {e : TypeId} (h : w.ownsRow B e 1 (.slice (.some ⟨g, 0, none⟩) m cap) m (xs.map (Value.int .u8))) : Row w B g cap m xs := by
  have hl := h.lt g rfl
  rcases h.2 with ⟨h', _⟩ | ⟨g', cap', cur, h', hb, hg, hnc, hcm, hcs, htake⟩
  · simp at h'
  · simp only [Value.slice.injEq, Option.some.injEq, Addr.mk.injEq, and_true, true_and] at h'
    obtain ⟨rfl, rfl⟩ := h'
    have hlen : xs.length = m := by have := h.1; simpa using this
    refine ⟨hlen, hb, hl.2, hnc, fun j hj => ?_, fun j hj => ?_, fun j => ?_⟩
    · rw [h.cellAt j (by omega)]
      simp [List.getElem?_eq_getElem (show j < xs.length by omega)]
    · rw [cell_of_row w g j cur e (0, 0) hg]
      simp
      omega
    · left
      exact frozen_of_row w g j cur e hg
/-- []byte(s) -/
theorem Row.bytes (w : World) (e : TypeId) (s : ByteArray) : Row (Lib.bytesWorld w e s) w.heap.size w.heap.size (grownCap w s.size 0 e) s.size (s.data.toList.map fun b => (b.toNat : Int)) := by
  have hsz : (Lib.bytesCells w e s).size = grownCap w s.size 0 e := by
    have := grownCap_ge w s.size 0 e
    have h2 : s.data.size = s.size := rfl
    simp [Lib.bytesCells]
    omega
  have hb := Lib.bytesWorld_at_new w e s
  refine ⟨by simp, Nat.le_refl _, by rw [Lib.bytesWorld_size]; omega, grownCap_ge w s.size 0 e, fun j hj => ?_, fun j hj => ?_, fun j => ?_⟩
  · rw [Lib.bytesWorld_cell w e s j hj]
    have h2 : j < s.data.toList.length := hj
    rw [List.getD_eq_getElem?_getD, List.getD_eq_getElem?_getD, List.getElem?_map, List.getElem?_eq_getElem h2]
    rfl
  · rw [cell_of_row _ w.heap.size j _ e _ hb]
    simp
    omega
  · by_cases hj : grownCap w s.size 0 e ≤ j
    · exact .inr hj
    · left
      simp [World.frozen?, hb]
      omega
theorem getD_snoc (xs : List Int) (y : Int) (j : Nat) : (xs ++ [y]).getD j 0 = if j < xs.length then xs.getD j 0 else if j = xs.length then y else 0 := by
  rw [List.getD_eq_getElem?_getD, List.getElem?_append]
  split
  · rw [List.getD_eq_getElem?_getD]
  · rename_i h
    split
    · rename_i h2
      subst h2
      simp
    · rename_i h2
      rw [List.getElem?_eq_none (by simp; omega)]
      rfl
theorem Row.set (h : Row w B g cap m xs) (y : Int) (hm : m + 1 ≤ cap) : Row (w.setCell ⟨g, m, none⟩ (.int .u8 y)) B g cap (m + 1) (xs ++ [y]) := by
  obtain ⟨u, hu⟩ := Option.isSome_iff_exists.1 (h.some m (by omega))
  refine ⟨by simp [h.len], h.base, by have := h.lt; simpa [World.setCell] using this, hm, fun j hj => ?_, fun j hj => ?_, fun j => ?_⟩
  · rw [getD_snoc, h.len]
    by_cases h1 : j = m
    · subst h1
      rw [if_neg (by omega), if_pos rfl]
      exact World.cell?_setCell_same _ _ _ hu
    · rw [if_pos (by omega), World.cell?_setCell_other _ _ _ _ (fun e => h1 (by injection e; omega))]
      exact h.cell j (by omega)
  · by_cases h1 : j = m
    · subst h1
      rw [World.cell?_setCell_same _ _ _ hu]
      rfl
    · rw [World.cell?_setCell_other _ _ _ _ (fun e => h1 (by injection e; omega))]
      exact h.some j hj
  · rw [World.frozen?_setCell]
    exact h.free j
theorem wpList_append_rw {P : Program} (wr : World) {ops : Array Oper} {rest : List Oper} {o : Oper} {a : Act} {Q : Exit → Act → World → Prop}
    (hg : o.guard = none) (s x : Operand) (t : TypeId) (hop : o.op = Op.call { callee := Callee.builtin Builtin.append, args := #[s, x], argTypes := #[t, t] })
    (e : TypeId) (i : TypeInfo) (h1 : P.underlying t = some (.slice e)) (h2 : P.info? e = some i) (h3 : i.zero = some (.int .u8 0)) (h4 : i.size = 1) (h5 : i.bytes = 1)
    (B g m cap : Nat) (xs : List Int) (y : Int) (hs : a.eval s = .slice (some ⟨g, 0, none⟩) m cap) (hx : a.eval x = .slice (some ⟨wr.heap.size, 0, none⟩) 1 1) (hR : Row wr B g cap m xs) (hm : m + 1 ≤ 1000200)
    (hK : ∀ g' cap' w', Row w' B g' cap' (m + 1) (xs ++ [y]) → Below B wr w' → wpList P ops Q rest (a.put o.dst (.slice (some ⟨g', 0, none⟩) (m + 1) cap')) w') :
    wpList P ops Q (o :: rest) a (wr.alloc (.cells #[.int .u8 y] e)) := by
  have hlt := hR.lt
  have hbase := hR.base
  have hRa := hR.alloc (.cells #[.int .u8 y] e)
  refine wpList_append_arg _ hg s x t hop e i (.int .u8 0) 1 1 h1 h2 h3 h4 h5 rfl (by decide) g 0 m cap (xs.map (Value.int .u8)) hs (by simp [hR.len]) (fun j u hj => ?_) ⟨wr.heap.size, 0, none⟩ 1 1 [.int .u8 y] hx rfl (one_new _ _ _) (one_cell _ _)
    (fun hr j hj => ?_) (by simp only [maxLen]; omega) (by omega) (fun hr => ?_) (fun hr v' w' hown hgrow => ?_)
  · rw [List.getElem?_map] at hj
    have hlen := hR.len
    by_cases hjm : j < m
    · rw [List.getElem?_eq_getElem (by omega)] at hj
      simp at hj
      rw [Nat.zero_add, hRa.cell j hjm, List.getD_eq_getElem?_getD, List.getElem?_eq_getElem (by omega), ← hj]
      rfl
    · rw [List.getElem?_eq_none (by omega)] at hj
      simp at hj
  · have hj0 : j = 0 := by simpa using hj
    subst hj0
    simp only [Nat.zero_add, Nat.mul_one, Nat.add_zero]
    exact ⟨hRa.some m (by omega), (hRa.free m).resolve_right (by omega)⟩
  · simp only [World.setCells, Nat.zero_add, Nat.mul_one]
    exact hK g cap _ (hRa.set y hr) (((Below.refl B wr).alloc (by omega) _).setCell hbase _)
  · obtain ⟨g2, cap', rfl, hg', _⟩ := World.ownsRow.form hown (by omega)
    have hbl : Below B wr w' := ((Below.refl B wr).alloc (by omega) _).grown hgrow (by simp; omega) (fun _ h => by cases h)
    have hown2 : w'.ownsRow B e 1 (.slice (some ⟨g2, 0, none⟩) (m + 1) cap') (m + 1) ((xs ++ [y]).map (Value.int .u8)) := by
      rw [List.map_append]
      exact ⟨hown.1, hown.2.imp id (fun ⟨g, cap, cur, a, b, c⟩ => ⟨g, cap, cur, a, by simp at b; omega, c⟩)⟩
    exact hK g2 cap' w' (Row.of_own hown2) hbl
end Rw
end Go.Proofs.YtlcildmhcohpbaaGreatDoor
