/-
  What readJid's answer says of a domain: plain laws.
-/
import Derived.Test.YtlcildmhcohpbaaGreatDoorJt
import Derived.Lib.IndexMore
namespace Go.Proofs.YtlcildmhcohpbaaGreatDoor
open Go.RowKit
set_option linter.unusedSimpArgs false
set_option linter.unusedVariables false
namespace Jz
open Do Jb Ja Jr Jt
def c1 (s sep : ByteArray) : ByteArray := ⟨(Lib.cut s.data.toList sep.data.toList).1.toArray⟩
def c2 (s sep : ByteArray) : ByteArray := ⟨(Lib.cut s.data.toList sep.data.toList).2.1.toArray⟩
def c3 (s sep : ByteArray) : Bool := (Lib.cut s.data.toList sep.data.toList).2.2
theorem cut_len (s sep : List UInt8) : (Lib.cut s sep).1.length ≤ s.length ∧ (Lib.cut s sep).2.1.length ≤ s.length := by
  unfold Lib.cut
  split
  · constructor
    · rw [List.length_take]; omega
    · rw [List.length_drop]; omega
  · exact ⟨Nat.le_refl _, by simp⟩
theorem c1_size (s sep : ByteArray) : (c1 s sep).size ≤ s.size := by
  have h := (cut_len s.data.toList sep.data.toList).1
  unfold c1 ByteArray.size
  simpa using h
theorem c2_size (s sep : ByteArray) : (c2 s sep).size ≤ s.size := by
  have h := (cut_len s.data.toList sep.data.toList).2
  unfold c2 ByteArray.size
  simpa using h
theorem occ_one (l : List UInt8) (b : UInt8) (j : Nat) (h : Lib.occAt l [b] j = true) : l[j]? = some b := by
  unfold Lib.occAt at h
  cases hd : l.drop j with
  | nil => rw [hd] at h; simp at h
  | cons a r =>
    rw [hd] at h
    have e : b = a := by simpa using h
    have := congrArg (fun x => x[0]?) hd
    simp only [List.getElem?_drop] at this
    rw [show j + 0 = j by omega] at this
    rw [this, e]
    rfl
theorem dom_no (t : ByteArray) (h : Dom t) (b : UInt8) (hb : ¬ ok (b.toNat : Int)) : Lib.cut t.data.toList [b] = (t.data.toList, [], false) := by
  rcases Lib.index_spec t.data.toList [b] with ⟨h1, _⟩ | ⟨i, h1, h2, h3, _⟩
  · unfold Lib.cut
    rw [h1]
    rfl
  · exfalso
    have hi := occ_one _ _ _ h3
    have hlt : i < t.size := (List.getElem?_eq_some_iff.1 hi).1
    have := (h.2.2.2.2 i hlt).1
    rw [bt_at t i b hi] at this
    exact hb this
theorem ba_eta (t : ByteArray) : (⟨t.data.toList.toArray⟩ : ByteArray) = t := by simp
theorem dom_slash (t : ByteArray) (h : Dom t) : c1 t ⟨#[47]⟩ = t ∧ c2 t ⟨#[47]⟩ = ⟨#[]⟩ := by
  have e := dom_no t h 47 (by unfold ok; decide)
  unfold c1 c2
  change (⟨(Lib.cut t.data.toList [47]).1.toArray⟩ : ByteArray) = t ∧ (⟨(Lib.cut t.data.toList [47]).2.1.toArray⟩ : ByteArray) = ⟨#[]⟩
  rw [e]
  exact ⟨ba_eta t, rfl⟩
theorem dom_at (t : ByteArray) (h : Dom t) : c3 t ⟨#[64]⟩ = false := by
  have e := dom_no t h 64 (by unfold ok; decide)
  unfold c3
  change (Lib.cut t.data.toList [64]).2.2 = false
  rw [e]
theorem ba_eq (x y : ByteArray) (h : (x.toList == y.toList) = true) : x = y := by
  have e : x.toList = y.toList := by simpa using h
  rw [Jc.toList_data, Jc.toList_data] at e
  rw [← ba_eta x, ← ba_eta y, e]
theorem ba_nil (x : ByteArray) (h : x.toList.isEmpty = true) : x = ⟨#[]⟩ := by
  rw [Jc.toList_data] at h
  have e : x.data.toList = [] := by simpa using h
  rw [← ba_eta x, e]
theorem nil_empty : (⟨#[]⟩ : ByteArray).toList.isEmpty = true := by rw [Jc.toList_data]; rfl
noncomputable def qq (t a d r : ByteArray) : Bool := rightB a d r && ((txt a d r).toList == t.toList)
theorem right_dom {a d r : ByteArray} (h : rightB a d r = true) : Dom d := by
  unfold rightB at h
  simp only [Bool.and_eq_true] at h
  exact (domB_iff d).1 h.2.1
theorem txt_nil (d : ByteArray) : txt ⟨#[]⟩ d ⟨#[]⟩ = d := by
  unfold txt o1
  rw [if_pos nil_empty, if_pos nil_empty]
theorem qq_dom (t a d r : ByteArray) (h : (qq t a d r && (a.toList.isEmpty && r.toList.isEmpty)) = true) : Dom t := by
  simp only [Bool.and_eq_true] at h
  obtain ⟨hq, ha, hr⟩ := h
  have ea := ba_nil a ha
  have er := ba_nil r hr
  subst ea er
  unfold qq at hq
  simp only [Bool.and_eq_true] at hq
  obtain ⟨h1, h2⟩ := hq
  rw [txt_nil] at h2
  rw [← ba_eq _ _ h2]
  exact right_dom h1
theorem dom_qq (t : ByteArray) (h : Dom t) : (qq t ⟨#[]⟩ t ⟨#[]⟩ && ((⟨#[]⟩ : ByteArray).toList.isEmpty && (⟨#[]⟩ : ByteArray).toList.isEmpty)) = true := by
  unfold qq rightB
  rw [txt_nil, nil_empty, locB_nil, resB_nil, (domB_iff t).2 h]
  simp
end Jz
end Go.Proofs.YtlcildmhcohpbaaGreatDoor
