/-
  The draw of a key's parts.
-/
import Derived.Test.YtlcildmhcohpbaaGreatDoorSp
import Derived.Deep.RegionWith
import Derived.Deep.OwnRows
import Derived.Deep.DeepCutAuto
namespace Go.Proofs.YtlcildmhcohpbaaGreatDoor
open Go.RowKit
set_option linter.unusedSimpArgs false
set_option linter.unusedVariables false
namespace Dr
theorem made_at (v : Value) (n i : Nat) (h : i < n) : (madeCells #[v] n)[i]? = some v := by
  have e : i % 1 = 0 := Nat.mod_one i
  simp [madeCells, h, e]
theorem to_below {w w1 w2 : World} {p : Nat} (h : Below w.heap.size w w1) (hp : w.heap.size ≤ p) (hg : w1.grownBy w2 (some p)) : Below w.heap.size w w2 :=
  h.grown hg h.size (fun i e => by injection e; omega)
/-- a row of zero bytes -/
def zs (n : Nat) : Obj := .cells (madeCells #[.int .u8 0] n) 5
theorem make_ (n : Nat) (hn : n ≤ 1000) (w : World) : (Instr.makeSlice 25 (.int .i64 (n : Int)) (.int .i64 (n : Int))).run Tryz.prog w = .ok (.slice (some ⟨w.heap.size, 0, none⟩) n n) (w.alloc (zs n)) :=
  run_make_row' (P := Tryz.prog) 25 5 (.int .u8 0) 1 Tryz.underlying25 info_u8 rfl .i64 .i64 n (by omega) (by omega) w
/-- block g holds o -/
def Has (w : World) (g : Nat) (o : Obj) : Prop := w.heap[g]? = some o
theorem Has.new (w : World) (o : Obj) : Has (w.alloc o) w.heap.size o := heap_alloc_new w o
theorem Has.new' {w : World} {o : Obj} {g : Nat} (h : g = w.heap.size) : Has (w.alloc o) g o := by rw [h]; exact heap_alloc_new w o
theorem below_alloc' {w w1 : World} (h : Below w.heap.size w w1) (o : Obj) : Below w.heap.size w (w1.alloc o) := h.alloc h.size o
theorem Has.lt {w : World} {g : Nat} {o : Obj} (h : Has w g o) : g < w.heap.size := by
  rcases Nat.lt_or_ge g w.heap.size with h1 | h1
  · exact h1
  · unfold Has at h
    rw [Array.getElem?_eq_none h1] at h
    cases h
theorem Has.alloc {w : World} {g : Nat} {o : Obj} (h : Has w g o) (o2 : Obj) : Has (w.alloc o2) g o := (Below.heap_alloc w o2 g h.lt).trans h
theorem Has.drew {w : World} {g : Nat} {o : Obj} (h : Has w g o) : Has w.drew g o := h
theorem Has.grown {w w2 : World} {g p : Nat} {o : Obj} (h : Has w g o) (hG : w.grownBy w2 (some p)) (hg : g ≠ p) : Has w2 g o := (hG.block g h.lt (fun e => by injection e; omega)).trans h
theorem Has.cell {w : World} {g : Nat} {cs : Array Value} {t : TypeId} (h : Has w g (.cells cs t)) (i : Nat) : w.cell? ⟨g, i, none⟩ = cs[i]? := cell_of_row w g i cs t (0, 0) h
theorem conv_ (n g : Nat) (w : World) (h : Has w g (zs n)) : (convert 25 9 (.slice (some ⟨g, 0, none⟩) n n)).run Tryz.prog w = .ok (.string (strOfNums (List.replicate n 0))) w :=
  run_convert_bytes_arg _ 25 5 Tryz.underlying25 Tryz.underlying5 g 0 n n _ (by simp) (fun i hi => by
    rw [Nat.zero_add, Has.cell h i, made_at _ _ _ hi]
    simp [hi]) 9 Tryz.underlying9
/-- a row of texts -/
abbrev strsOf (ss : List ByteArray) : Obj := .cells (ss.map Value.string).toArray 9
theorem Has.str {w : World} {g : Nat} {ss : List ByteArray} (h : Has w g (strsOf ss)) (j : Nat) (hj : j < ss.length) : w.cell? ⟨g, j, none⟩ = some (.string (ss.getD j ByteArray.empty)) := by
  rw [Has.cell h j]
  simp [hj]
/-- the numbers that are drawn from -/
def ids : List Int := [0, 1, 77, 1000000000, 1000000001]
abbrev idRow : Obj := .cells #[.int .i64 0, .int .i64 1, .int .i64 77, .int .i64 1000000000, .int .i64 1000000001] 2
theorem ld_ (w : World) (g i : Nat) (h : Has w g idRow) (hi : i < 5) : w.cell? ⟨g, i, none⟩ = some (.int .i64 (ids.getD i 0)) := by
  rw [Has.cell h i]
  match i, hi with
  | 0, _ => rfl
  | 1, _ => rfl
  | 2, _ => rfl
  | 3, _ => rfl
  | 4, _ => rfl
theorem ids_get (i : Nat) (hi : i < 5) : [Value.int .i64 0, Value.int .i64 1, Value.int .i64 77, Value.int .i64 1000000000, Value.int .i64 1000000001][i]'hi = Value.int .i64 (ids[i]?.getD 0) := by
  match i, hi with
  | 0, _ => rfl
  | 1, _ => rfl
  | 2, _ => rfl
  | 3, _ => rfl
  | 4, _ => rfl
theorem pickc (w : World) (p g n : Nat) (ss : List ByteArray) (hR : Rd w p) (hn : ss.length = n) (h1 : 1 ≤ n) (h2 : n ≤ 1000) (h : Has w g (strsOf ss)) (hgp : g ≠ p) (m : Nat) (hm : ∀ s ∈ ss, s.size ≤ m) :
    Calls Tryz.prog 27 #[.pointer (some ⟨p, 0, none⟩), .slice (some ⟨g, 0, none⟩) n n] w fun e w' => ∃ s : ByteArray, e = .returned (.string s) ∧ s.size ≤ m ∧ Rd w' p ∧ w.grownBy w' (some p) := by
  refine (pick_ w p g n ss hR h1 h2 h.lt hgp (fun j hj => h.str j (by omega))).mono ?_
  rintro e w2 ⟨i, hi, rfl, hR2, hG⟩
  refine ⟨_, rfl, hm _ ?_, hR2, hG⟩
  rw [List.getD_eq_getElem?_getD, List.getElem?_eq_getElem (by omega)]
  exact List.getElem_mem _
theorem pick2 (w : World) (p g : Nat) (a b : ByteArray) (hR : Rd w p) (h : Has w g (.cells #[.string a, .string b] 9)) (hgp : g ≠ p) (m : Nat) (ha : a.size ≤ m) (hb : b.size ≤ m) :
    Calls Tryz.prog 27 #[.pointer (some ⟨p, 0, none⟩), .slice (some ⟨g, 0, none⟩) 2 2] w fun e w' => ∃ s : ByteArray, e = .returned (.string s) ∧ s.size ≤ m ∧ Rd w' p ∧ w.grownBy w' (some p) :=
  pickc w p g 2 [a, b] hR rfl (by decide) (by decide) h hgp m (fun s hs => by
    simp only [List.mem_cons, List.not_mem_nil, or_false] at hs
    rcases hs with rfl | rfl <;> assumption)
set_option maxHeartbeats 4000000 in
set_option maxRecDepth 100000 in
theorem key_ (w : World) (ao : Option Addr) (n cap : Nat) (hC : Code w w.heap.size ao n) :
    Calls Tryz.prog 10 #[.slice ao n cap] w fun e w' => ∃ (S T F : ByteArray) (id : Int), e = .returned (.tuple #[.string S, .string T, .string F, .int .i64 id]) ∧ S.size ≤ 101 ∧ T.size ≤ 101 ∧ F.size ≤ 101 ∧ Below w.heap.size w w' := by
  have mk1 : ∀ w, (Instr.makeSlice 25 (.int .i64 100) (.int .i64 100)).run Tryz.prog w = .ok (.slice (some ⟨w.heap.size, 0, none⟩) 100 100) (w.alloc (zs 100)) := make_ 100 (by omega)
  have mk2 : ∀ w, (Instr.makeSlice 25 (.int .i64 101) (.int .i64 101)).run Tryz.prog w = .ok (.slice (some ⟨w.heap.size, 0, none⟩) 101 101) (w.alloc (zs 101)) := make_ 101 (by omega)
  have cv1 := conv_ 100
  have cv2 := conv_ 101
  have z1 : (strOfNums (List.replicate 100 0)).size ≤ 101 := by rw [strOfNums_size, List.length_replicate]; omega
  have z2 : (strOfNums (List.replicate 101 0)).size ≤ 101 := by rw [strOfNums_size, List.length_replicate]; omega
  generalize zs 100 = o1 at *
  generalize zs 101 = o2 at *
  generalize strOfNums (List.replicate 100 0) = s1 at *
  generalize strOfNums (List.replicate 101 0) = s2 at *
  have hm1 : ∀ s ∈ [(⟨#[115]⟩ : ByteArray), ⟨#[]⟩, ⟨#[115, 101, 99, 114, 101, 116]⟩, s1, s2], s.size ≤ 101 := fun s hs => by
    simp only [List.mem_cons, List.not_mem_nil, or_false] at hs
    rcases hs with rfl | rfl | rfl | rfl | rfl <;> first | assumption | decide
  have hm2 : ∀ s ∈ [(⟨#[97]⟩ : ByteArray), ⟨#[98, 46, 99]⟩, ⟨#[65]⟩], s.size ≤ 101 := fun s hs => by
    simp only [List.mem_cons, List.not_mem_nil, or_false] at hs
    rcases hs with rfl | rfl | rfl <;> decide
  have hm3 : (⟨#[97]⟩ : ByteArray).size ≤ 101 := by decide
  have hm4 : (⟨#[120]⟩ : ByteArray).size ≤ 101 := by decide
  have ld := ld_
  go_enter Tryz.func10, Tryz.ntmps10
  go_wp2_with fail
  refine (source_ w ao n cap hC).mono ?_
  rintro e w1 ⟨p, rfl, hp, hR, hB⟩
  have hlt := hR.lt
  go_upto_region 2 with fail
  go_cut [7] (fun s7 wx => ∃ S : ByteArray, s7 = .string S ∧ S.size ≤ 101 ∧ Rd wx p ∧ Below w.heap.size w wx)
  case first =>
    go_region_with (first
      | (rw [mk1])
      | (rw [mk2])
      | (rw [cv1]; (rotate_left; focus (repeat (first | (refine Has.new' ?_; simp; done) | apply Has.drew | apply Has.alloc))))
      | (rw [cv2]; (rotate_left; focus (repeat (first | (refine Has.new' ?_; simp; done) | apply Has.drew | apply Has.alloc))))
      | (go_at_call 27; refine (pickc _ p _ 5 [⟨#[115]⟩, ⟨#[]⟩, ⟨#[115, 101, 99, 114, 101, 116]⟩, s1, s2] ?hR rfl ?h1 ?h2 ?hH ?hgp 101 hm1).mono ?_;
          (case hR => (repeat (first | exact hR | apply Rd.drew | apply Rd.alloc))); (case h1 => decide); (case h2 => decide); (case hH => (repeat (first | (refine Has.new' ?_; simp; done) | apply Has.drew | apply Has.alloc))); (case hgp => (first | omega | (simp; omega)));
          rintro e w2 ⟨S, rfl, hS, hR2, hG2⟩; have hB2 : Below w.heap.size w w2 := (by refine to_below ?_ hp hG2; (repeat (first | exact hB | apply Below.drew | apply below_alloc')))))
    all_goals go_wp2_with fail
    all_goals go_meet
    all_goals exact ⟨S, rfl, hS, hR2, hB2⟩
  case rest =>
  obtain ⟨S, rfl, hS, hR2, hB2⟩ := hcut
  clear hR hB hlt mk1 mk2 cv1 cv2 z1 z2 hm1
  have hlt2 := hR2.lt
  go_wp2_with fail
  refine (pickc _ p _ 3 [⟨#[97]⟩, ⟨#[98, 46, 99]⟩, ⟨#[65]⟩] (hR2.alloc _) rfl (by decide) (by decide) (Has.new _ _) (by omega) 101 hm2).mono ?_
  rintro e w3 ⟨T, rfl, hT, hR3, hG3⟩
  have hB3 := to_below (below_alloc' hB2 _) hp hG3
  have hlt3 := hR3.lt
  clear hR2 hB2 hlt2 hG3 hm2 hC
  go_wp2_with fail
  go_region_with (first
      | (go_at_call 27; refine (pick2 _ p _ ⟨#[97]⟩ ⟨#[120]⟩ ?hR ?hH ?hgp 101 hm3 hm4).mono ?_;
          (case hR => (repeat (first | with_reducible assumption | with_reducible apply Rd.drew | with_reducible apply Rd.alloc))); (case hH => (repeat (first | (with_reducible refine Has.new' ?_; first | rfl | (simp; done)) | with_reducible apply Has.drew | with_reducible apply Has.alloc | (with_reducible refine Has.grown ?_ hG5 ?_; rotate_left; (focus (first | omega | (simp; omega)))) | (with_reducible refine Has.grown ?_ hG4 ?_; rotate_left; (focus (first | omega | (simp; omega))))))); (case hgp => (first | omega | (simp; omega)));
          rintro e w4 ⟨F, rfl, hF, hR4, hG4⟩; have hl4 := hR4.lt; have hB4 : Below w.heap.size w w4 := (by refine to_below ?_ hp hG4; (repeat (first | with_reducible assumption | with_reducible apply Below.drew | with_reducible apply below_alloc'))))
      | (go_at_call 28; refine (n_ _ p _ ?hle ?hrd).mono ?_; (case hle => decide); (case hrd => (repeat (first | with_reducible assumption | with_reducible apply Rd.drew | with_reducible apply Rd.alloc)));
          rintro e w5 ⟨v, rfl, h0, h1, hR5, hG5⟩; have hl5 := hR5.lt; obtain ⟨i, rfl⟩ := Int.eq_ofNat_of_zero_le h0; have hi : i < 5 := (by omega); have hB5 : Below w.heap.size w w5 := (by refine to_below ?_ hp hG5; (repeat (first | with_reducible assumption | with_reducible apply Below.drew | with_reducible apply below_alloc'))))
      | (rw [ld]; rotate_left; (focus (repeat (first | (with_reducible refine Has.new' ?_; first | rfl | (simp; done)) | with_reducible apply Has.drew | with_reducible apply Has.alloc | (with_reducible refine Has.grown ?_ hG5 ?_; rotate_left; (focus (first | omega | (simp; omega)))) | (with_reducible refine Has.grown ?_ hG4 ?_; rotate_left; (focus (first | omega | (simp; omega))))))); (focus assumption)))
  all_goals go_wp2_with fail
  all_goals refine bodyPost_ret (v := .tuple #[.string S, .string T, .string F, .int .i64 (ids.getD i 0)]) (by simp [results, Tryz.results10, go_sem] <;> exact ids_get i hi) rfl ?_
  all_goals refine ⟨S, T, F, _, rfl, hS, hT, hF, ?_⟩
  all_goals (repeat (first | with_reducible assumption | with_reducible apply Below.drew | with_reducible apply below_alloc'))
end Dr
end Go.Proofs.YtlcildmhcohpbaaGreatDoor
