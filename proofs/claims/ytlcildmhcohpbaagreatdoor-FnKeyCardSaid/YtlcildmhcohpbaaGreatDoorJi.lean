/-
  The program's isDomain.
-/
import Derived.Test.YtlcildmhcohpbaaGreatDoorJu
import Derived.Test.YtlcildmhcohpbaaGreatDoorJv
import Derived.Test.YtlcildmhcohpbaaGreatDoorJx
import Derived.Test.YtlcildmhcohpbaaGreatDoorJy
import Derived.Test.YtlcildmhcohpbaaGreatDoorJz
import Derived.Test.YtlcildmhcohpbaaGreatDoorDe
namespace Go.Proofs.YtlcildmhcohpbaaGreatDoor
open Go.RowKit
set_option linter.unusedSimpArgs false
set_option linter.unusedVariables false
namespace Ji
open Do Jb Ja Jr Jt Jz
/-- what a world holds that the walks lean on -/
structure Env (w : World) (m : Int) : Prop where
  lt : 2 < w.heap.size
  c2 : w.cell? ⟨2, 0, none⟩ = some (.int .i64 m)
  tab : Lib.TabIs Tryz.prog w "internal/strconv.uint64pow10" .u64 Lib.pow10Tab
theorem Env.below {w w' : World} {m : Int} (h : Env w m) (hb : Below w.heap.size w w') : Env w' m :=
  ⟨Nat.lt_of_lt_of_le h.lt hb.size, (hb.cell (p := ⟨2, 0, none⟩) h.lt).trans h.c2, De.tab_keep (g := 1) (by kernel_rfl) h.tab hb (Nat.lt_trans (by decide) h.lt)⟩
theorem cut_ (m : Int) (s sep : ByteArray) (w : World) (hs : s.size ≤ 2000000) (hm : w.cell? ⟨2, 0, none⟩ = some (.int .i64 m)) :
    Calls Tryz.prog 42 #[.string s, .string sep] w fun e w' => e = .returned (.tuple #[.string (c1 s sep), .string (c2 s sep), .bool (c3 s sep)]) ∧ ∃ n, w' = w.drewN n :=
  Tryz.strings_Cut s sep m w (by omega) hm
/-- readJid's answer, and what it says of a domain -/
theorem read_ (t : ByteArray) (w : World) (m : Int) (hE : Env w m) (ht : t.size ≤ 2000000) :
    ∃ (a d r : ByteArray) (q : Bool), (Calls Tryz.prog 35 #[.string t] w fun e w' => e = .returned (.tuple #[.agg #[.string a, .string d, .string r], .bool q]) ∧ Below w.heap.size w w') ∧ (q && (a.toList.isEmpty && r.toList.isEmpty)) = domB t := by
  have hf : (c1 t ⟨#[47]⟩).size ≤ 2000000 := Nat.le_trans (c1_size _ _) ht
  have hr : (c2 t ⟨#[47]⟩).size ≤ 2000000 := Nat.le_trans (c2_size _ _) ht
  cases h3 : c3 (c1 t ⟨#[47]⟩) ⟨#[64]⟩ with
  | false =>
    refine ⟨⟨#[]⟩, c1 t ⟨#[47]⟩, c2 t ⟨#[47]⟩, qq t ⟨#[]⟩ (c1 t ⟨#[47]⟩) (c2 t ⟨#[47]⟩), ?_, ?_⟩
    · have hright := fun w h0 hm => right_ ⟨#[]⟩ (c1 t ⟨#[47]⟩) (c2 t ⟨#[47]⟩) w (by decide) hf hr h0 m hm
      have htext := fun w => text_ ⟨#[]⟩ (c1 t ⟨#[47]⟩) (c2 t ⟨#[47]⟩) w (by decide) hf hr
      unfold qq
      cases h : rightB ⟨#[]⟩ (c1 t ⟨#[47]⟩) (c2 t ⟨#[47]⟩) with
      | false =>
        rw [h] at hright
        exact Ju.readF c1 c2 c3 false ⟨#[]⟩ t w hE.lt m hE.c2 ht hf (cut_ m) _ _ rfl h3 rfl hright
      | true =>
        rw [h] at hright
        exact Jx.readT c1 c2 c3 _ _ t w hE.lt m hE.c2 ht hf (cut_ m) _ _ rfl h3 rfl hright htext rfl
    · rw [Bool.eq_iff_iff, domB_iff]
      constructor
      · exact qq_dom _ _ _ _
      · intro hd
        rw [(dom_slash t hd).1, (dom_slash t hd).2]
        exact dom_qq t hd
  | true =>
    have ha : (c1 (c1 t ⟨#[47]⟩) ⟨#[64]⟩).size ≤ 2000000 := Nat.le_trans (c1_size _ _) hf
    have hd : (c2 (c1 t ⟨#[47]⟩) ⟨#[64]⟩).size ≤ 2000000 := Nat.le_trans (c2_size _ _) hf
    refine ⟨c1 (c1 t ⟨#[47]⟩) ⟨#[64]⟩, c2 (c1 t ⟨#[47]⟩) ⟨#[64]⟩, c2 t ⟨#[47]⟩, qq t (c1 (c1 t ⟨#[47]⟩) ⟨#[64]⟩) (c2 (c1 t ⟨#[47]⟩) ⟨#[64]⟩) (c2 t ⟨#[47]⟩), ?_, ?_⟩
    · have hright := fun w h0 hm => right_ (c1 (c1 t ⟨#[47]⟩) ⟨#[64]⟩) (c2 (c1 t ⟨#[47]⟩) ⟨#[64]⟩) (c2 t ⟨#[47]⟩) w ha hd hr h0 m hm
      have htext := fun w => text_ (c1 (c1 t ⟨#[47]⟩) ⟨#[64]⟩) (c2 (c1 t ⟨#[47]⟩) ⟨#[64]⟩) (c2 t ⟨#[47]⟩) w ha hd hr
      unfold qq
      cases h : rightB (c1 (c1 t ⟨#[47]⟩) ⟨#[64]⟩) (c2 (c1 t ⟨#[47]⟩) ⟨#[64]⟩) (c2 t ⟨#[47]⟩) with
      | false =>
        rw [h] at hright
        exact Jv.readF c1 c2 c3 false ⟨#[]⟩ t w hE.lt m hE.c2 ht hf (cut_ m) _ _ _ _ rfl h3 rfl rfl rfl hright
      | true =>
        rw [h] at hright
        exact Jy.readT c1 c2 c3 _ _ t w hE.lt m hE.c2 ht hf (cut_ m) _ _ _ _ rfl h3 rfl rfl rfl hright htext rfl
    · rw [Bool.eq_iff_iff, domB_iff]
      constructor
      · exact qq_dom _ _ _ _
      · intro hd
        rw [(dom_slash t hd).1, dom_at t hd] at h3
        cases h3
set_option maxHeartbeats 1000000 in
theorem isdc (t a d r : ByteArray) (q q1 q2 : Bool) (w : World) (h1 : a.toList.isEmpty = q1) (h2 : r.toList.isEmpty = q2)
    (hread : Calls Tryz.prog 35 #[.string t] w fun e w' => e = .returned (.tuple #[.agg #[.string a, .string d, .string r], .bool q]) ∧ Below w.heap.size w w') :
    Calls Tryz.prog 19 #[.string t] w fun e w' => e = .returned (.bool (q && (q1 && q2))) ∧ Below w.heap.size w w' := by
  cases q with
  | false =>
    go_enter Tryz.func19, Tryz.ntmps19
    go_wp2_with (go_at_call 35; refine hread.mono ?_; rintro e w2 ⟨rfl, hb2⟩; have hB2 := hb2.alloc hb2.size (.cells #[.string a, .string d, .string r] 50))
    go_ret
    exact ⟨rfl, hB2⟩
  | true =>
    cases q1 with
    | false =>
      go_enter Tryz.func19, Tryz.ntmps19
      go_wp2_with (go_at_call 35; refine hread.mono ?_; rintro e w2 ⟨rfl, hb2⟩; have hB2 := hb2.alloc hb2.size (.cells #[.string a, .string d, .string r] 50))
      go_ret
      exact ⟨rfl, hB2⟩
    | true =>
      cases q2 with
      | false =>
        go_enter Tryz.func19, Tryz.ntmps19
        go_wp2_with (go_at_call 35; refine hread.mono ?_; rintro e w2 ⟨rfl, hb2⟩; have hB2 := hb2.alloc hb2.size (.cells #[.string a, .string d, .string r] 50))
        go_ret
        exact ⟨rfl, hB2⟩
      | true =>
        go_enter Tryz.func19, Tryz.ntmps19
        go_wp2_with (go_at_call 35; refine hread.mono ?_; rintro e w2 ⟨rfl, hb2⟩; have hB2 := hb2.alloc hb2.size (.cells #[.string a, .string d, .string r] 50))
        go_ret
        exact ⟨rfl, hB2⟩
theorem isDomain_ (t : ByteArray) (w : World) (m : Int) (hE : Env w m) (ht : t.size ≤ 2000000) :
    Calls Tryz.prog 19 #[.string t] w fun e w' => e = .returned (.bool (domB t)) ∧ Below w.heap.size w w' := by
  obtain ⟨a, d, r, q, hread, e⟩ := read_ t w m hE ht
  have h := isdc t a d r q _ _ w rfl rfl hread
  rw [e] at h
  exact h
end Ji
end Go.Proofs.YtlcildmhcohpbaaGreatDoor
