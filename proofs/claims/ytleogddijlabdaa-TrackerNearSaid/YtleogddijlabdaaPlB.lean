/- The distance of two places, as package plane reckons it. -/
import Derived.Test.YtleogddijlabdaaPlA
set_option linter.unusedSimpArgs false
set_option linter.unusedVariables false
namespace Go.Proofs.Ytleogddijlabdaa
open Go.RowKit

theorem chk_abs {x y : Int} (h : chk x y = true) : x.natAbs ≤ 1048576 ∧ y.natAbs ≤ 1048576 := by
  have := chk_iff.1 h; omega

theorem ofC (x : Int) (h : x.natAbs ≤ 1048576) : Flt.FI (FloatKind.f64.nearest x) x := Flt.FI_ofInt x (by omega)

/-- The distance of two places. -/
def dist (x y u v : Int) : Int := if chk x y && chk u v then (x - u) * (x - u) + (y - v) * (y - v) else -1

open Flt in
set_option maxHeartbeats 400000 in
theorem Dist_yes (x y u v : Int) (h1 : chk x y = true) (h2 : chk u v = true) (w : World) :
    Calls Try.prog 31 #[.agg #[.int .i64 x, .int .i64 y], .agg #[.int .i64 u, .int .i64 v]] w fun e w' => e = .returned (.int .i64 ((x - u) * (x - u) + (y - v) * (y - v))) ∧ Ext w w' := by
  have a1 := chk_abs h1
  have a2 := chk_abs h2
  have c1 := ofC x a1.1
  have c2 := ofC y a1.2
  have c3 := ofC u a2.1
  have c4 := ofC v a2.2
  obtain ⟨r, i, hr, fr, fi⟩ := cSum_sub c1 c2 c3 c4 (by omega) (by omega)
  have hm := fun w => run_complex_sum (P := Try.prog) w .sub (Or.inr rfl) 82 .f64 _ _ _ _ _ _ hr
  have hnorm := fun w => norm_any r i _ _ fr fi (by omega) (by omega) w
  have hb : (chk x y && chk u v) = true := by simp [h1, h2]
  clear hr fr fi c1 c2 c3 c4 h1 h2
  go_enter Try.func31, Try.ntmps31
  go_wp2_with fail
  refine (both_any _ _ _ _ _).mono ?_
  rintro e w1 ⟨rfl, hx⟩
  rw [hb]
  have hc := hx.cell
  have hz := hx.size
  simp at hz
  have kx : Ext w w1 := by (repeat' (first | exact Ext.refl _ | assumption | (apply Ext.after; assumption) | (refine Ext.alloc ?_ _) | (refine Ext.drew ?_) | (refine Ext.drewN ?_ _) | (refine Ext.setCell ?_ ?_ _) | (simp; done) | (simp; omega) | omega))
  have k0 : w1.cell? ⟨w.heap.size, 0, none⟩ = some (.int .i64 x) := hx.cell_two0 0
  have k1 : w1.cell? ⟨w.heap.size, 1, none⟩ = some (.int .i64 y) := hx.cell_two0 1
  go_wp2_with fail
  go_region_held3 (fun w' => Ext w w' ∧ w'.cell? ⟨w.heap.size, 0, none⟩ = some (.int .i64 x) ∧ w'.cell? ⟨w.heap.size, 1, none⟩ = some (.int .i64 y) ∧ w'.cell? ⟨w.heap.size + 1, 0, none⟩ = some (.int .i64 u) ∧ w'.cell? ⟨w.heap.size + 1, 1, none⟩ = some (.int .i64 v))
    ((go_split_ands; refine ⟨?_, ?_, ?_, ?_, ?_⟩ <;> (first | assumption | (exact hx2.cellAt (by assumption)) | go_keep | ((repeat' (first | exact Ext.refl _ | assumption | (apply Ext.after; assumption) | (refine Ext.alloc ?_ _) | (refine Ext.drew ?_) | (refine Ext.drewN ?_ _) | (refine Ext.setCell ?_ ?_ _) | (simp; done) | (simp; omega) | omega)); done))))
    ((first | (go_at_call 40; refine (of_any _ _ _).mono ?_; rintro e w2 ⟨rfl, hx2⟩) | (go_at_call 46; refine (hnorm _).mono ?_; rintro e w2 ⟨rfl, rfl⟩)))
  go_wp2
  go_ret
  go_split_ands
  exact ⟨rfl, by (repeat' (first | exact Ext.refl _ | assumption | (apply Ext.after; assumption) | (refine Ext.alloc ?_ _) | (refine Ext.drew ?_) | (refine Ext.drewN ?_ _) | (refine Ext.setCell ?_ ?_ _) | (simp; done) | (simp; omega) | omega))⟩

set_option maxHeartbeats 400000 in
theorem Dist_no (x y u v : Int) (hb : (chk x y && chk u v) = false) (w : World) :
    Calls Try.prog 31 #[.agg #[.int .i64 x, .int .i64 y], .agg #[.int .i64 u, .int .i64 v]] w fun e w' => e = .returned (.int .i64 (-1)) ∧ Ext w w' := by
  go_enter Try.func31, Try.ntmps31
  go_wp2_with fail
  refine (both_any _ _ _ _ _).mono ?_
  rintro e w1 ⟨rfl, hx⟩
  rw [hb]
  have hc := hx.cell
  have hz := hx.size
  simp at hz
  go_wp2
  go_ret
  exact ⟨rfl, by (repeat' (first | exact Ext.refl _ | assumption | (apply Ext.after; assumption) | (refine Ext.alloc ?_ _) | (refine Ext.drew ?_) | (refine Ext.drewN ?_ _) | (refine Ext.setCell ?_ ?_ _) | (simp; done) | (simp; omega) | omega))⟩

theorem Dist_any (x y u v : Int) (w : World) :
    Calls Try.prog 31 #[.agg #[.int .i64 x, .int .i64 y], .agg #[.int .i64 u, .int .i64 v]] w fun e w' => e = .returned (.int .i64 (dist x y u v)) ∧ Ext w w' := by
  unfold dist
  by_cases hb : (chk x y && chk u v) = true
  · rw [if_pos hb]
    have := Bool.and_eq_true_iff.1 hb
    exact Dist_yes x y u v this.1 this.2 w
  · rw [if_neg hb]
    exact Dist_no x y u v (by simpa using hb) w

theorem toI (r : Nat) (n : Int) (h : Flt.FI r n) (hn : n.natAbs < 9007199254740992) (w : World) :
    (convert 84 3 (.float .f64 r)).run Try.prog w = .ok (.int .i64 n) w :=
  run_convert_float_int (P := Try.prog) w 84 3 .f64 .i64 r _ (by rw [Try.underlying84]; rfl) Try.underlying3 (Flt.floatToIntVal_FI h (by omega) (by omega))

/-- What place answers. -/
def placeV (x y : Int) : Value := if chk x y then .tuple #[.agg #[.int .i64 x, .int .i64 y], .int .i64 0] else .tuple #[.agg #[.int .i64 0, .int .i64 0], .int .i64 8]

set_option maxHeartbeats 400000 in
theorem place_any (a b : Nat) (x y : Int) (ha : Flt.FI a x) (hb : Flt.FI b y) (hx : x.natAbs < 9007199254740992) (hy : y.natAbs < 9007199254740992) (w : World) :
    Calls Try.prog 39 #[.complex .f64 a b] w fun e w' => e = .returned (placeV x y) ∧ Ext w w' := by
  have c1 := toI a x ha hx
  have c2 := toI b y hb hy
  by_cases hk : chk x y = true
  · go_enter Try.func39, Try.ntmps39
    go_wp2_with fail
    refine (Check_any _ _ _).mono ?_
    rintro e w1 ⟨rfl, h1⟩
    rw [hk]
    have hc := h1.cell
    have hf := h1.frozen
    have hz := h1.size
    simp at hz
    have q0 := h1.cell_two0 0
    have q1 := h1.cell_two0 1
    have q2 := h1.cell_two1 0
    have q3 := h1.cell_two1 1
    simp at q0 q1 q2 q3
    go_wp2
    exact bodyPost_ret (v := .tuple #[.agg #[.int .i64 x, .int .i64 y], .int .i64 0]) (by simp [results, Try.results39, go_sem, cell_set, q0, q1]) rfl ⟨by simp [placeV, hk], by (repeat' (first | exact Ext.refl _ | assumption | (apply Ext.after; assumption) | (refine Ext.alloc ?_ _) | (refine Ext.drew ?_) | (refine Ext.drewN ?_ _) | (refine Ext.setCell ?_ ?_ _) | (simp; done) | (simp; omega) | omega))⟩
  · go_enter Try.func39, Try.ntmps39
    go_wp2_with fail
    refine (Check_any _ _ _).mono ?_
    rintro e w1 ⟨rfl, h1⟩
    rw [show chk x y = false from by simpa using hk]
    have hc := h1.cell
    have hf := h1.frozen
    have hz := h1.size
    simp at hz
    have q0 := h1.cell_two0 0
    have q1 := h1.cell_two0 1
    have q2 := h1.cell_two1 0
    have q3 := h1.cell_two1 1
    simp at q0 q1 q2 q3
    go_wp2
    exact bodyPost_ret (v := .tuple #[.agg #[.int .i64 0, .int .i64 0], .int .i64 8]) (by simp [results, Try.results39, go_sem, cell_set, q0, q1]) rfl ⟨by simp [placeV, hk], by (repeat' (first | exact Ext.refl _ | assumption | (apply Ext.after; assumption) | (refine Ext.alloc ?_ _) | (refine Ext.drew ?_) | (refine Ext.drewN ?_ _) | (refine Ext.setCell ?_ ?_ _) | (simp; done) | (simp; omega) | omega))⟩

end Go.Proofs.Ytleogddijlabdaa
