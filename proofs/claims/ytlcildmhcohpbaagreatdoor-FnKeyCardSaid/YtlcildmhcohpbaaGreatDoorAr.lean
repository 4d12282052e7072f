/-
  Whole arrays by value: the operations alloc, build, store, load at an array type, cells kept behind a name; an index into an array by value.
-/
import Derived.Test.YtlcildmhcohpbaaGreatDoorBase
import Derived.WalkKit
import Derived.Laws.Rows
import Derived.Laws.Tables
import Derived.Deep.WholeRow
import Derived.Deep.OwnRows
namespace Go.Proofs.YtlcildmhcohpbaaGreatDoor
open Go.RowKit
set_option linter.unusedSimpArgs false
set_option linter.unusedVariables false
namespace Ar
section
variable {P : Program} {ops : Array Oper} {rest : List Oper} {o : Oper} {a : Act} {w : World} {Q : Exit → Act → World → Prop}

theorem wpList_alloc_z (hg : o.guard = none) (t : TypeId) (ho : o.op = .alloc t) (z : Array Value) (hz : ∀ w, (zeroValue t).run P w = .ok (.agg z) w)
    (h : wpList P ops Q rest (a.put o.dst (.pointer (some ⟨w.heap.size, 0, none⟩))) (w.alloc (.cells z t))) : wpList P ops Q (o :: rest) a w :=
  wpList_plain hg fun K hK => by
    unfold Oper.wp execOp
    simp only [ho, Instr.alloc, newVar, newRow, Sem.run_bind, hz, Result.andThen_ok, Sem.run_pure, Value.cells]
    go_simp
    exact hK _ _ h

theorem wpList_build_nil (hg : o.guard = none) (t : TypeId) (ho : o.op = .build t #[]) (z : Array Value) (hb : P.built t [] = some z)
    (h : wpList P ops Q rest (a.put o.dst (.agg z)) w) : wpList P ops Q (o :: rest) a w :=
  wpList_build hg t #[] ho (by simp [hb]) (by simpa [hb] using h)

/-- a whole array by value into the block that was made last -/
theorem wpList_store_new {c : Array Value} {t : TypeId} (hg : o.guard = none) (ty : TypeId) (x y : Operand) (ho : o.op = .store ty x y) (w0 : World) (hw : w = w0.alloc (.cells c t)) (cells : Array Value)
    (hx : a.eval x = .pointer (some ⟨w0.heap.size, 0, none⟩)) (hy : a.eval y = .agg cells) (hi : (P.info? ty).map (·.size) = some cells.size) (hold : c.size = cells.size) (h1 : cells.all (·.oneCell') = true)
    (h : wpList P ops Q rest (a.put o.dst undef) (w0.alloc (.cells cells t))) : wpList P ops Q (o :: rest) a w := by
  subst hw
  refine wpList_store_row hg ty x y ho w0.heap.size cells hx hy t c (heap_alloc_last w0 _) hi hold h1 ?_
  rw [World.setRow_alloc_new]
  exact h

abbrev isRow' : TypeDesc → Bool
  | .struct _ | .array _ _ => true
  | _ => false
/-- an element of an array by value -/
theorem run_index_arr {t e : TypeId} {n : Nat} {d : TypeDesc} {cs : Array Value} {i : Nat} {v : Value} (ht : P.underlying t = some (.array n e)) (he : P.underlying e = some d)
    (hd : isRow' d = false) (hs : (P.info? e).map (·.size) = some 1) (hi : i < n) (hc : cs[i]? = some v) (k : IntKind) (w : World) :
    (Instr.index t (.agg cs) (.int k (i : Int))).run P w = .ok v w := by
  cases hq : P.info? e with
  | none => simp [hq] at hs
  | some ie =>
    have h1 : ie.size = 1 := by simpa [hq] using hs
    have hagg : ∀ w, (isAgg e).run P w = .ok false w := by
      intro w
      unfold isAgg
      rw [Sem.run_bind, run_underlying he w]
      cases d <;> simp_all
    have hlt : (i : Int) < (n : Int) := by omega
    simp [Instr.index, asIntOf, run_underlying ht, hlt, sizeOf, typeInfo, hq, h1, part, hagg, hc]
    intro hle
    omega
end

def z64 : Array Value := (List.replicate 64 (Value.int .u32 0)).toArray
def z8 : Array Value := (List.replicate 8 (Value.int .u32 0)).toArray
theorem z64_size : z64.size = 64 := by unfold z64; simp
theorem z8_size : z8.size = 8 := by unfold z8; simp
theorem rep_at (n : Nat) (x : Value) (i : Nat) (hi : i < n) : (List.replicate n x).toArray[i]? = some x := by simp [hi]
theorem z64_at (i : Nat) (hi : i < 64) : z64[i]? = some (.int .u32 0) := rep_at 64 _ i hi
theorem z8_at (i : Nat) (hi : i < 8) : z8[i]? = some (.int .u32 0) := rep_at 8 _ i hi
/-- n words -/
def ws (n : Nat) (f : Nat → Int) : Array Value := ((List.range n).map fun i => Value.int .u32 (f i)).toArray
theorem ws_size (n : Nat) (f : Nat → Int) : (ws n f).size = n := by simp [ws]
theorem ws_at (n : Nat) (f : Nat → Int) (i : Nat) (hi : i < n) : (ws n f)[i]? = some (.int .u32 (f i)) := by simp [ws, hi]
theorem ws_one (n : Nat) (f : Nat → Int) : (ws n f).all (·.oneCell') = true := by
  rw [Array.all_eq_true_iff_forall_mem]
  intro x hx
  simp only [ws, List.mem_toArray, List.mem_map] at hx
  obtain ⟨i, _, rfl⟩ := hx
  rfl
theorem z64_one : z64.all (·.oneCell') = true := by
  rw [Array.all_eq_true_iff_forall_mem]
  intro x hx
  unfold z64 at hx
  rw [List.mem_toArray] at hx
  rw [(List.mem_replicate.1 hx).2]
  rfl
/-- a block that reads as n words is just these cells -/
theorem row_block {w : World} {b : Nat} {t : TypeId} {n : Nat} {f : Nat → Int} (h : w.rowIs b t n (fun i => .int .u32 (f i))) : w.heap[b]? = some (.cells (ws n f) t (0, 0)) := by
  obtain ⟨c, hb, hn, hc⟩ := h
  have e : c = ws n f := by
    apply Array.ext_getElem?
    intro i
    by_cases hi : i < n
    · rw [hc i hi, ws_at n f i hi]
    · rw [Array.getElem?_eq_none (by omega), Array.getElem?_eq_none (by rw [ws_size]; omega)]
  rw [hb, e]
theorem row_of_block {w : World} {b : Nat} {t : TypeId} {n : Nat} {f : Nat → Int} (h : w.heap[b]? = some (.cells (ws n f) t (0, 0))) : w.rowIs b t n (fun i => .int .u32 (f i)) :=
  ⟨_, h, ws_size n f, fun i hi => ws_at n f i hi⟩
theorem setRow_at {w : World} {g : Nat} {cs cs' : Array Value} {t : TypeId} {fr : Nat × Nat} (h : w.heap[g]? = some (.cells cs t fr)) : (w.setRow g cs').heap[g]? = some (.cells cs' t fr) := by
  simp [World.setRow, Array.getElem?_modify, h]
theorem setRow_far {w : World} {g b : Nat} (cs' : Array Value) (h : b ≠ g) : (w.setRow g cs').heap[b]? = w.heap[b]? := by
  simp [World.setRow, Array.getElem?_modify, Ne.symm h]
theorem below_setRow {B : Nat} {a w : World} (h : Below B a w) {g : Nat} (hg : B ≤ g) (cs' : Array Value) : Below B a (w.setRow g cs') :=
  ⟨h.os, h.tape, h.output, by simpa [World.setRow] using h.size, fun k hk => (setRow_far cs' (by omega)).trans (h.block k hk)⟩
end Ar
theorem grown_row {a w : World} {row : Option Nat} (h : a.grownBy w row) {g : Nat} (hg : a.heap.size ≤ g) (cs' : Array Value) : a.grownBy (w.setRow g cs') row :=
  ⟨h.os, h.tape, h.output, by simpa [World.setRow] using h.size, fun k hk hne => (Ar.setRow_far cs' (by omega)).trans (h.block k hk hne)⟩
end Go.Proofs.YtlcildmhcohpbaaGreatDoor
