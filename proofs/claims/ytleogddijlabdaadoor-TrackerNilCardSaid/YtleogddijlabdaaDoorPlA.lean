/- Contracts of package plane's small functions. -/
import Derived.Test.YtleogddijlabdaaDoorProg
import Derived.Test.YtleogddijlabdaaDoorBase
import Derived.Test.YtleogddijlabdaaDoorFlt
set_option linter.unusedSimpArgs false
set_option linter.unusedVariables false
namespace Go.Proofs.YtleogddijlabdaaDoor
open Go.RowKit

def within (n : Int) : Bool := decide (-1048576 ≤ n ∧ n ≤ 1048576)

set_option maxHeartbeats 400000 in
theorem within_any (n : Int) (w : World) :
    Calls Tryd.prog 26 #[.int .i64 n] w fun e w' => e = .returned (.bool (within n)) ∧ w' = w := by
  by_cases h1 : -1048576 ≤ n
  · by_cases h2 : n ≤ 1048576
    · go_enter Tryd.func26, Tryd.ntmps26
      go_wp2
      go_ret
      exact ⟨by simp [within, *], rfl⟩
    · go_enter Tryd.func26, Tryd.ntmps26
      go_wp2
      go_ret
      exact ⟨by simp [within, *], rfl⟩
  · go_enter Tryd.func26, Tryd.ntmps26
    go_wp2
    go_ret
    exact ⟨by simp [within]; omega, rfl⟩

def chk (x y : Int) : Bool := within x && within y

theorem chk_iff {x y : Int} : chk x y = true ↔ (-1048576 ≤ x ∧ x ≤ 1048576 ∧ -1048576 ≤ y ∧ y ≤ 1048576) := by
  simp [chk, within]; omega

set_option maxHeartbeats 400000 in
theorem Check_any (x y : Int) (w : World) :
    Calls Tryd.prog 16 #[.agg #[.int .i64 x, .int .i64 y]] w fun e w' => e = .returned (.bool (chk x y)) ∧ Ext w w' := by
  go_enter Tryd.func16, Tryd.ntmps16
  go_wp2_with (go_at_call 26; refine (within_any _ _).mono ?_; rintro e w' ⟨rfl, rfl⟩)
  all_goals
    go_ret
    exact ⟨by simp_all [chk], by (repeat' (first | exact Ext.refl _ | assumption | (apply Ext.after; assumption) | (refine Ext.alloc ?_ _) | (refine Ext.drew ?_) | (refine Ext.drewN ?_ _) | (refine Ext.setCell ?_ ?_ _) | (simp; done) | (simp; omega) | omega))⟩

theorem floatI (n : Int) (w : World) : (convert 3 105 (.int .i64 n)).run Tryd.prog w = .ok (.float .f64 (FloatKind.f64.nearest n)) w := by
  simp [convert, run_underlying Tryd.underlying3, run_underlying Tryd.underlying105, Conv.intToFloat]

set_option maxHeartbeats 400000 in
theorem of_any (x y : Int) (w : World) :
    Calls Tryd.prog 47 #[.agg #[.int .i64 x, .int .i64 y]] w fun e w' => e = .returned (.complex .f64 (FloatKind.f64.nearest x) (FloatKind.f64.nearest y)) ∧ Ext w w' := by
  have f1 := floatI
  go_enter Tryd.func47, Tryd.ntmps47
  go_wp2
  go_ret
  exact ⟨rfl, by (repeat' (first | exact Ext.refl _ | assumption | (apply Ext.after; assumption) | (refine Ext.alloc ?_ _) | (refine Ext.drew ?_) | (refine Ext.drewN ?_ _) | (refine Ext.setCell ?_ ?_ _) | (simp; done) | (simp; omega) | omega))⟩

set_option maxHeartbeats 400000 in
theorem both_any (x y u v : Int) (w : World) :
    Calls Tryd.prog 45 #[.agg #[.int .i64 x, .int .i64 y], .agg #[.int .i64 u, .int .i64 v]] w fun e w' => e = .returned (.bool (chk x y && chk u v)) ∧ Ext w w' := by
  go_enter Tryd.func45, Tryd.ntmps45
  go_wp2_with fail
  refine (Check_any _ _ _).mono ?_
  rintro e w1 ⟨rfl, hb⟩
  have hc := hb.cell
  have hz := hb.size
  simp at hz
  go_wp2_with (go_at_call 16; refine (Check_any _ _ _).mono ?_; rintro e w2 ⟨rfl, hb2⟩)
  all_goals
    go_ret
    exact ⟨by simp_all, by (repeat' (first | exact Ext.refl _ | assumption | (apply Ext.after; assumption) | (refine Ext.alloc ?_ _) | (refine Ext.drew ?_) | (refine Ext.drewN ?_ _) | (refine Ext.setCell ?_ ?_ _) | (simp; done) | (simp; omega) | omega))⟩

open Flt in
set_option maxHeartbeats 400000 in
theorem norm_any (a b : Nat) (x y : Int) (ha : FI a x) (hb : FI b y) (hx : x.natAbs ≤ 2097152) (hy : y.natAbs ≤ 2097152) (w : World) :
    Calls Tryd.prog 46 #[.complex .f64 a b] w fun e w' => e = .returned (.int .i64 (x * x + y * y)) ∧ w' = w := by
  obtain ⟨r, i, hr, fr, _⟩ := cMul ha hb ha (FI_neg hb) (by omega) (by omega) (by omega) (by omega)
  have m1 := natAbs_mul_le hx hx
  have m2 := natAbs_mul_le hy hy
  have hm := run_complex_mul (P := Tryd.prog) w 87 _ _ _ _ _ _ hr
  have hn : Op.unary .neg (.float .f64 b) = pure (.float .f64 (Op.negFloat .f64 b)) := rfl
  have e1 : x * x - y * -y = x * x + y * y := by rw [Int.mul_neg, Int.sub_neg]
  have hcv := run_convert_float_int (P := Tryd.prog) w 105 3 .f64 .i64 r _ (by rw [Tryd.underlying105]; rfl) Tryd.underlying3 (floatToIntVal_FI fr (by rw [e1]; omega) (by rw [e1]; omega))
  rw [e1] at hcv
  clear hr fr e1
  go_enter Tryd.func46, Tryd.ntmps46
  go_wp2
  go_ret
  exact ⟨by simp, rfl⟩

end Go.Proofs.YtleogddijlabdaaDoor
