/-
  The walks of math.Sqrt, math.Cbrt, math.Floor and of the program's fraction: what each gives, on bits.
-/
import Derived.Test.YtlcildmhcohpbaaGreatDoorProg
import Derived.Test.YtlcildmhcohpbaaGreatDoorBase
import Derived.Test.YtlcildmhcohpbaaGreatDoorSha
import Derived.WalkKit
import Derived.WalkSpells
import Derived.WalkLawsBesides
import Derived.Laws.Externs
namespace Go.Proofs.YtlcildmhcohpbaaGreatDoor
open Go.RowKit
set_option linter.unusedSimpArgs false
set_option linter.unusedVariables false
namespace Fl

theorem cf_sqrt {x r : Nat} (h : Sha.fsqrt x = some r) (w : World) : (callFunc 76 #[.float .f64 x]).run Tryz.prog w = .ok (.value (.float .f64 r)) w := by
  have h' : FloatKind.f64.format.sqrt x = some r := h
  rw [run_callFunc_extern Tryz.func76 (by kernel_rfl) (by kernel_rfl) (by kernel_rfl) (e := Extern.MathSqrt.sqrt) (by kernel_rfl)]
  have e : Extern.MathSqrt.sqrt #[.float .f64 x] = (match FloatKind.f64.format.sqrt x with | some r => pure (.float .f64 r) | none => do pure (.float .f64 (← choose (.nanBits .f64 x x)))) := rfl
  rw [e, h']
  simp [Result.andThen]
theorem cf_floor {x : Nat} (h : Sha.notNan x = true) (w : World) : (callFunc 103 #[.float .f64 x]).run Tryz.prog w = .ok (.value (.float .f64 (Sha.ffloor x))) w := by
  rw [run_callFunc_extern Tryz.func103 (by kernel_rfl) (by kernel_rfl) (by kernel_rfl) (e := Extern.MathFloor.toIntegral "math.archFloor" .down) (by kernel_rfl)]
  unfold Sha.notNan at h
  unfold Sha.ffloor
  have e : Extern.MathFloor.toIntegral "math.archFloor" .down #[.float .f64 x] = (match FloatKind.f64.decode x with
    | .nan s t =>
      if FloatKind.f64.format.quiet t = t then pure (.float .f64 x) else do
      let kept ← choose (.extern "math.Floor,Ceil,Trunc,RoundToEven.signallingNaN kept" 2)
      pure (.float .f64 (if kept == 1 then x else FloatKind.f64.encode (.nan s (FloatKind.f64.format.quiet t))))
    | d => pure (.float .f64 (FloatKind.f64.encode (d.integral .down)))) := rfl
  rw [e]
  cases hd : FloatKind.f64.decode x with
  | nan s t => rw [hd] at h; simp [Ieee.Datum.isNaN] at h
  | infinity s => simp [Result.andThen]
  | number s m i => simp [Result.andThen]
theorem cf_bits (x : Nat) (w : World) : (callFunc 108 #[.float .f64 x]).run Tryz.prog w = .ok (.value (.int .u64 x)) w := by
  rw [run_callFunc_extern Tryz.func108 (by kernel_rfl) (by kernel_rfl) (by kernel_rfl) (e := Extern.MathFloatBits.float64bits) (by kernel_rfl)]
  rfl
theorem cf_from (n : Int) (x : Nat) (h : n.toNat = x) (w : World) : (callFunc 107 #[.int .u64 n]).run Tryz.prog w = .ok (.value (.float .f64 x)) w := by
  subst h
  rw [run_callFunc_extern Tryz.func107 (by kernel_rfl) (by kernel_rfl) (by kernel_rfl) (e := Extern.MathFloatBits.float64frombits) (by kernel_rfl)]
  rfl

theorem sqrt_ {x r : Nat} (h : Sha.fsqrt x = some r) (w : World) : Calls Tryz.prog 55 #[.float .f64 x] w fun e w' => e = .returned (.float .f64 r) ∧ w = w' := by
  have hc := cf_sqrt h
  clear h
  go_enter Tryz.func55, Tryz.ntmps55
  go_wp2
  go_ret
  exact ⟨rfl, rfl⟩
theorem floor_ {x : Nat} (h : Sha.notNan x = true) (w : World) : Calls Tryz.prog 75 #[.float .f64 x] w fun e w' => e = .returned (.float .f64 (Sha.ffloor x)) ∧ w = w' := by
  have hc := cf_floor h
  clear h
  go_enter Tryz.func75, Tryz.ntmps75
  go_wp2
  go_ret
  exact ⟨rfl, rfl⟩
theorem nan_ {x : Nat} (h : (FloatKind.f64.format.order x x == some .eq) = true) (w : World) : Calls Tryz.prog 105 #[.float .f64 x] w fun e w' => e = .returned (.bool false) ∧ w = w' := by
  go_enter Tryz.func105, Tryz.ntmps105
  go_wp2
  go_ret
  refine ⟨ret_bool ?_, rfl⟩
  rw [bne, h]; rfl
theorem abs_ {x : Nat} (hx : x < 9223372036854775808) (w : World) : Calls Tryz.prog 122 #[.float .f64 x] w fun e w' => e = .returned (.float .f64 x) ∧ w = w' := by
  have hb := cf_bits x
  have ha : bits .andNot .u64 (x : Int) 9223372036854775808 = (x : Int) := by
    rw [u64_andNot _ _ (by omega) (by omega) (by omega) (by omega)]
    have e : (9223372036854775808 : Int).toNat = 2 ^ 63 := by decide
    rw [e, Int.toNat_natCast]
    have e2 : 18446744073709551615 - 2 ^ 63 = 2 ^ 63 - 1 := by decide
    rw [e2, Nat.and_two_pow_sub_one_eq_mod, Nat.mod_eq_of_lt (by omega)]
  have hf := cf_from (bits .andNot .u64 (x : Int) 9223372036854775808) x (by rw [ha]; simp)
  clear ha
  go_enter Tryz.func122, Tryz.ntmps122
  go_wp2
  go_ret
  exact ⟨rfl, rfl⟩
theorem inf_ {x : Nat} (hx : x < 9223372036854775808) (h : (FloatKind.f64.format.order x 9218868437227405311 == some .gt) = false) (w : World) :
    Calls Tryz.prog 106 #[.float .f64 x, .int .i64 0] w fun e w' => e = .returned (.bool false) ∧ w = w' := by
  go_enter Tryz.func106, Tryz.ntmps106
  go_wp2_with (go_at_call 122; refine (abs_ hx _).mono ?_; rintro e w' ⟨rfl, rfl⟩)
  go_ret
  exact ⟨rfl, rfl⟩

theorem ar {op : BinOp} {x y r : Nat} (h : floatBits op .f64 x y = some r) (w : World) : (binOp op 76 (.float .f64 x) (.float .f64 y)).run Tryz.prog w = .ok (.float .f64 r) w := run_float_arith w op _ .f64 x y r h

theorem guard_some {p : Prop} [Decidable p] {α : Type} {f : Option α} {r : α} (h : (do guard p; f) = some r) : p ∧ f = some r := by
  by_cases hp : p
  · simp [guard, hp] at h; exact ⟨hp, h⟩
  · simp [guard, hp] at h; cases h
theorem guard_is {p : Prop} [Decidable p] {u : Unit} (h : guard p = some u) : p := by
  by_cases hp : p
  · exact hp
  · simp [guard, hp] at h
theorem and_low (n m : Nat) : n &&& m ≤ n := Nat.and_le_left


set_option maxHeartbeats 2000000 in
theorem cbrt_walk {x t0 t1 r0 r1 s0 s1 s2 s3 s4 s5 t2 t3 q r2 w1 d e1 r3 m r : Nat} (w : World)
    (o1 : (FloatKind.f64.format.order x x == some .eq) = true) (o2 : (FloatKind.f64.format.order x 0 == some .eq) = false) (o3 : (FloatKind.f64.format.order x 0 == some .lt) = false)
    (o4 : (FloatKind.f64.format.order x 9218868437227405311 == some .gt) = false) (o5 : (FloatKind.f64.format.order x 4503599627370496 == some .lt) = false)
    (hx : x < 9223372036854775808)
    (c0 : ∀ w, (callFunc 107 #[.int .u64 ((x : Int) / 3 + 3071306043645493248)]).run Tryz.prog w = .ok (.value (.float .f64 t0)) w)
    (h1 : ∀ w, (binOp .mul 76 (.float .f64 t0) (.float .f64 t0)).run Tryz.prog w = .ok (.float .f64 t1) w)
    (h2 : ∀ w, (binOp .quo 76 (.float .f64 t1) (.float .f64 x)).run Tryz.prog w = .ok (.float .f64 r0) w)
    (h3 : ∀ w, (binOp .mul 76 (.float .f64 r0) (.float .f64 t0)).run Tryz.prog w = .ok (.float .f64 r1) w)
    (h4 : ∀ w, (binOp .add 76 (.float .f64 4603064841997850097) (.float .f64 r1)).run Tryz.prog w = .ok (.float .f64 s0) w)
    (h5 : ∀ w, (binOp .add 76 (.float .f64 s0) (.float .f64 4609048195788499471)).run Tryz.prog w = .ok (.float .f64 s1) w)
    (h6 : ∀ w, (binOp .quo 76 (.float .f64 13827900089180538932) (.float .f64 s0)).run Tryz.prog w = .ok (.float .f64 s2) w)
    (h7 : ∀ w, (binOp .add 76 (.float .f64 s1) (.float .f64 s2)).run Tryz.prog w = .ok (.float .f64 s3) w)
    (h8 : ∀ w, (binOp .quo 76 (.float .f64 4609916747145206638) (.float .f64 s3)).run Tryz.prog w = .ok (.float .f64 s4) w)
    (h9 : ∀ w, (binOp .add 76 (.float .f64 4600105333671292343) (.float .f64 s4)).run Tryz.prog w = .ok (.float .f64 s5) w)
    (h10 : ∀ w, (binOp .mul 76 (.float .f64 t0) (.float .f64 s5)).run Tryz.prog w = .ok (.float .f64 t2) w)
    (hb0 : ∀ w, (callFunc 108 #[.float .f64 x]).run Tryz.prog w = .ok (.value (.int .u64 x)) w)
    (hb1 : ∀ w, (callFunc 108 #[.float .f64 t2]).run Tryz.prog w = .ok (.value (.int .u64 t2)) w)
    (hm0 : 0 ≤ bits .and .u64 (t2 : Int) 18446744072635809792) (hm1 : bits .and .u64 (t2 : Int) 18446744072635809792 < 9223372036854775808)
    (c1 : ∀ w, (callFunc 107 #[.int .u64 (bits .and .u64 (t2 : Int) 18446744072635809792 + 1073741824)]).run Tryz.prog w = .ok (.value (.float .f64 t3)) w)
    (h11 : ∀ w, (binOp .mul 76 (.float .f64 t3) (.float .f64 t3)).run Tryz.prog w = .ok (.float .f64 q) w)
    (h12 : ∀ w, (binOp .quo 76 (.float .f64 x) (.float .f64 q)).run Tryz.prog w = .ok (.float .f64 r2) w)
    (h13 : ∀ w, (binOp .add 76 (.float .f64 t3) (.float .f64 t3)).run Tryz.prog w = .ok (.float .f64 w1) w)
    (h14 : ∀ w, (binOp .sub 76 (.float .f64 r2) (.float .f64 t3)).run Tryz.prog w = .ok (.float .f64 d) w)
    (h15 : ∀ w, (binOp .add 76 (.float .f64 w1) (.float .f64 r2)).run Tryz.prog w = .ok (.float .f64 e1) w)
    (h16 : ∀ w, (binOp .quo 76 (.float .f64 d) (.float .f64 e1)).run Tryz.prog w = .ok (.float .f64 r3) w)
    (h17 : ∀ w, (binOp .mul 76 (.float .f64 t3) (.float .f64 r3)).run Tryz.prog w = .ok (.float .f64 m) w)
    (h18 : ∀ w, (binOp .add 76 (.float .f64 t3) (.float .f64 m)).run Tryz.prog w = .ok (.float .f64 r) w) :
    Calls Tryz.prog 78 #[.float .f64 x] w fun e w' => e = .returned (.float .f64 r) ∧ w = w' := by
  go_enter Tryz.func78, Tryz.ntmps78
  go_wp2_with (first | (go_at_call 105; refine (nan_ o1 _).mono ?_; rintro e w' ⟨rfl, rfl⟩) | (go_at_call 106; refine (inf_ hx o4 _).mono ?_; rintro e w' ⟨rfl, rfl⟩))
  go_ret
  exact ⟨rfl, rfl⟩

set_option maxHeartbeats 1000000 in
theorem cbrt0_ {x r : Nat} (h : Sha.cbrt x = some r) (w : World) : Calls Tryz.prog 78 #[.float .f64 x] w fun e w' => e = .returned (.float .f64 r) ∧ w = w' := by
  unfold Sha.cbrt at h
  obtain ⟨hp, h⟩ := guard_some h
  simp only [Sha.fpos, Bool.and_eq_true, Bool.not_eq_true', decide_eq_true_eq] at hp
  obtain ⟨⟨⟨⟨⟨o1, o2⟩, o3⟩, o4⟩, o5⟩, hx⟩ := hp
  generalize ht0 : x / 3 + 3071306043645493248 = t0 at h
  simp only [Option.bind_eq_bind, Option.bind_eq_some_iff] at h
  obtain ⟨t1, h1, r0, h2, r1, h3, s0, h4, s1, h5, s2, h6, s3, h7, s4, h8, s5, h9, t2, h10, h⟩ := h
  obtain ⟨_, hg, h⟩ := h
  have hlt := guard_is hg
  clear hg
  generalize ht3 : (t2 &&& 18446744072635809792) + 1073741824 = t3 at h
  obtain ⟨q, h11, r2, h12, w1, h13, d, h14, e1, h15, r3, h16, m, h17, h18⟩ := h
  have hba : bits .and .u64 (t2 : Int) 18446744072635809792 = ((t2 &&& 18446744072635809792 : Nat) : Int) := by
    rw [u64_and _ _ (by omega) (by omega) (by omega) (by omega), Int.toNat_natCast]
    rfl
  have hle : t2 &&& 18446744072635809792 ≤ t2 := Nat.and_le_left
  refine cbrt_walk w o1 o2 o3 o4 o5 hx (cf_from _ t0 (by rw [← ht0]; omega)) (ar h1) (ar h2) (ar h3) (ar h4) (ar h5) (ar h6) (ar h7) (ar h8) (ar h9) (ar h10) (cf_bits x) (cf_bits t2)
    (by rw [hba]; omega) (by rw [hba]; omega) (cf_from _ t3 (by rw [hba, ← ht3]; omega)) (ar h11) (ar h12) (ar h13) (ar h14) (ar h15) (ar h16) (ar h17) (ar h18)

theorem cbrt_ {x r : Nat} (h : Sha.cbrt x = some r) (w : World) : Calls Tryz.prog 56 #[.float .f64 x] w fun e w' => e = .returned (.float .f64 r) ∧ w = w' := by
  have H := Lib.hid h
  clear h
  go_enter Tryz.func56, Tryz.ntmps56
  go_wp2_with (go_at_call 78; refine (cbrt0_ H.out _).mono ?_; rintro e w' ⟨rfl, rfl⟩)
  go_ret
  exact ⟨rfl, rfl⟩

theorem frac_walk {x d m : Nat} {r : Int} (w : World) (hn : Sha.notNan x = true) (hm : Sha.notNan m = true)
    (h1 : ∀ w, (binOp .sub 76 (.float .f64 x) (.float .f64 (Sha.ffloor x))).run Tryz.prog w = .ok (.float .f64 d) w)
    (h2 : ∀ w, (binOp .mul 76 (.float .f64 d) (.float .f64 4751297606875873280)).run Tryz.prog w = .ok (.float .f64 m) w)
    (h3 : ∀ w, (convert 76 58 (.float .f64 (Sha.ffloor m))).run Tryz.prog w = .ok (.int .u32 r) w) :
    Calls Tryz.prog 54 #[.float .f64 x] w fun e w' => e = .returned (.int .u32 r) ∧ w = w' := by
  go_enter Tryz.func54, Tryz.ntmps54
  go_wp2_with fail
  refine (floor_ hn _).mono ?_
  rintro e w' ⟨rfl, rfl⟩
  go_wp2_with fail
  refine (floor_ hm _).mono ?_
  rintro e w' ⟨rfl, rfl⟩
  go_wp2
  go_ret
  exact ⟨rfl, rfl⟩
theorem frac_ {x : Nat} {r : Int} (h : Sha.frac x = some r) (w : World) :
    Calls Tryz.prog 54 #[.float .f64 x] w fun e w' => e = .returned (.int .u32 r) ∧ w = w' := by
  unfold Sha.frac at h
  obtain ⟨hn, h⟩ := guard_some h
  simp only [Option.bind_eq_bind, Option.bind_eq_some_iff] at h
  obtain ⟨d, h1, m, h2, h⟩ := h
  obtain ⟨_, hg, h⟩ := h
  have hm := guard_is hg
  exact frac_walk w hn hm (ar h1) (ar h2) (fun w => run_convert_float_int w _ _ _ _ _ _ (by rw [Tryz.underlying76]; rfl) Tryz.underlying58 h)
end Fl
end Go.Proofs.YtlcildmhcohpbaaGreatDoor
