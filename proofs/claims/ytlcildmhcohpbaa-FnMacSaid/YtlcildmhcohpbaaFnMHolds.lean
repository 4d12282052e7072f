/- The mac of a drawn key and text is the one composed of digests, and a password stretched once more is the mac of it and its previous result: the law FnMac returns true for every input; no condition. -/
import Derived.Test.YtlcildmhcohpbaaRows
import Derived.Test.YtlcildmhcohpbaaFnM
import Derived.ProofKit
import Derived.Lib.SmallJoins
import Derived.ChangeMaps5
import Derived.ChangeSlices
import Derived.WideKeyArgs
namespace Go.Proofs.Ytlcildmhcohpbaa
open Go.ChangeShapes Go.WideShapes Go.ChangeAt Go.RowKit Go.Joins

namespace FnM
theorem own : ownKnob Try.prog.godebug = none := by kernel_rfl
theorem laid : laidOutB Try.prog = true := by kernel_rfl
theorem cells5 : Try.prog.cellsOf 5 = 1 := by kernel_rfl
section
variable {H : Type} {enc : TypeId × Value → H}
theorem open_code {W : World} {base : Nat} {v : Value} {d : DataW H} {ps : List MemPlace} (hval : Value.okWide Try.prog W .any base 36 v) (h : DataW.Trod enc Try.prog W 0 (fun _ => true) true 36 v d ps) (hlt : ∀ x ∈ ps, x.block < W.heap.size) :
    ∃ ao n cap, v = .slice ao n cap ∧ (n ≤ 1048576 → Dr.Code W W.heap.size ao n) := by
  obtain ⟨a1, len, cap, rfl⟩ := okWide_slice Try.underlying36 hval
  obtain ⟨fuel, hf⟩ := h
  rcases open_ints Try.underlying36 Try.underlying5 cells5 hf with ⟨hcs, hx⟩ | ⟨a, len', cap', zs, hcs, _, hl, hm, hz, hx, hcell, hwz⟩
  · simp [Value.cells] at hcs
    obtain ⟨rfl, rfl, rfl⟩ := hcs
    exact ⟨_, _, _, rfl, fun hn => ⟨hn, fun i hi => by omega⟩⟩
  · simp [Value.cells] at hcs
    obtain ⟨rfl, rfl, rfl⟩ := hcs
    simp only [Prod.mk.injEq] at hx
    obtain ⟨rfl, rfl⟩ := hx
    simp only [if_true] at hz
    refine ⟨_, _, _, rfl, fun hn => ⟨hn, fun i hi => ?_⟩⟩
    obtain ⟨ab, ao, spot⟩ := a
    have hspot : spot = none := by simpa [Addr.add] using World.cell?_spot (hcell 0 (by omega))
    subst hspot
    have hci := hcell i (by omega)
    rw [Addr.add_lit] at hci
    have hmem : zs.getD i 0 ∈ zs := by
      rw [List.getD_eq_getElem?_getD, List.getElem?_eq_getElem (by omega)]
      exact List.getElem_mem _
    have hw := hwz _ hmem
    simp [Lit.wf, IntKind.min, IntKind.max, IntKind.signed, IntKind.bits] at hw
    rw [← List.getD_eq_getElem?_getD] at hw
    exact ⟨ab, ao, _, rfl, World.block_lt_of_cell? _ _ hci, by omega, by omega, hci⟩
end
set_option maxRecDepth 100000 in
theorem lifted (os : Os) (started : os.Started) (H : Type) (enc : TypeId × Value → H) :
    ReturnsInHanded {} Try.checked os 7 .any (Rows.fnMacSpec.pre6 enc Try.prog Try.f7 Rows.fnMacRow.domain false) (Rows.fnMacSpec.post enc Try.prog Try.f7 false true false false) := by
  refine returnsInHanded_of_change (C := Try.checked) own started (by kernel_rfl) Try.func7
    (ChangeSpec.witness6 (enc := enc) (C := Try.checked) false ⟨#[], #[.slice none 0 0, .slice none 0 0], []⟩ 8 (by kernel_rfl) (by kernel_rfl) (by kernel_rfl) (by kernel_rfl)) ?_
  intro W base args ds gs before hval0 hW hcnd _
  have hval : ∀ (j : Nat) t v, Try.f7.params[j]? = some t → args[j]? = some v → Value.okWide Try.prog W .any base t v := hval0
  have hW' := hW
  obtain ⟨p, q, hA0, hV, rfl, hfz, hnd⟩ := hW
  have hA : DataW.TrodAll enc Try.prog W 0 (fun _ => true) true Try.f7.params.toList args.toList ds p := hA0
  rw [Try.params7] at hA hval
  obtain ⟨v0, v1, d0, d1, p0, p1, rfl, rfl, rfl, h0, h1⟩ := trodAll_two hA
  obtain ⟨rfl, rfl⟩ := trodVars_none hV
  have hlt : ∀ x ∈ p0 ++ p1, x.block < W.heap.size := fun x hx => hW'.lt x (by simpa using hx)
  obtain ⟨ao, n, cap, rfl, hC⟩ := open_code (hval 0 36 v0 rfl rfl) h0 (fun x hx => hlt x (List.mem_append_left _ hx))
  obtain ⟨ao2, n2, cap2, rfl, hC2⟩ := open_code (hval 1 36 v1 rfl rfl) h1 (fun x hx => hlt x (List.mem_append_right _ hx))
  clear hA0 hval0
  simp only [List.append_nil] at hW'
  refine (law_ ao ao2 n n2 cap cap2 W hC hC2).mono fun e W' ⟨he, hb⟩ => ?_
  subst he
  have stays : ∀ (sp : Nat → Bool), (∀ x ∈ p0 ++ p1, sp x.block = true) → ∀ (v : Value) (d : DataW H) (ps : List MemPlace), (∀ x ∈ ps, x ∈ p0 ++ p1) → DataW.Trod enc Try.prog W 0 (fun _ => true) true 36 v d ps → DataW.Trod enc Try.prog W' 0 sp true 36 v d ps :=
    fun sp hsp v d ps hps h => WideElems.Trod_stays laid (by kernel_rfl) (of_decide_eq_true (by kernel_rfl)) h (fun x hx => hb.same (hlt x (hps x hx))) (fun x hx => hsp x (hps x hx))
  exact ⟨_, rfl, post_of_below (pa := p0 ++ p1) (pv := []) hW' (fun _ _ _ => trodAll_mk1 (shut_bool Try.underlying4 true))
    (fun sp hsp => trodAll_mk2 (stays sp hsp _ _ _ (fun x hx => List.mem_append_left _ hx) h0) (stays sp hsp _ _ _ (fun x hx => List.mem_append_right _ hx) h1)) (fun _ _ => rfl) (by simp)
    hb (ok_one (by kernel_rfl) rfl (okWide_bool_mk Try.underlying4 true))⟩

theorem holds : Rows.FnMacSaid :=
  OpenClaim.holds_of_wide 7 Try.f7 rfl rfl rfl rfl rfl rfl rfl ⟨rfl, rfl, rfl, rfl, rfl⟩ rfl rfl rfl rfl rfl (by kernel_rfl) Try.func7 (by kernel_rfl)
    (of_decide_eq_true (by kernel_rfl)) (by unfold Func.isWrapper; rw [if_neg (by decide +kernel)]; exact ⟨rfl, rfl⟩)
    (fun os started H enc _ => lifted os started H enc)
#print axioms holds
end FnM
end Go.Proofs.Ytlcildmhcohpbaa
