/- The example of package plane: products, turns, the spiral. -/
import Derived.Test.YtleogddijlabdaaPlB
set_option linter.unusedSimpArgs false
set_option linter.unusedVariables false
namespace Go.Proofs.Ytleogddijlabdaa
open Go.RowKit Flt

set_option maxHeartbeats 400000 in
theorem Mul_yes (x y u v : Int) (h1 : chk x y = true) (h2 : chk u v = true) (w : World) :
    Calls Try.prog 22 #[.agg #[.int .i64 x, .int .i64 y], .agg #[.int .i64 u, .int .i64 v]] w fun e w' => e = .returned (placeV (x * u - y * v) (x * v + y * u)) ∧ Ext w w' := by
  have a1 := chk_abs h1
  have a2 := chk_abs h2
  have c1 := ofC x a1.1
  have c2 := ofC y a1.2
  have c3 := ofC u a2.1
  have c4 := ofC v a2.2
  have m1 := natAbs_mul_le a1.1 a2.1
  have m2 := natAbs_mul_le a1.2 a2.2
  have m3 := natAbs_mul_le a1.1 a2.2
  have m4 := natAbs_mul_le a1.2 a2.1
  obtain ⟨r, i, hr, fr, fi⟩ := cMul c1 c2 c3 c4 (by omega) (by omega) (by omega) (by omega)
  have hm := fun w => run_complex_mul (P := Try.prog) w 82 _ _ _ _ _ _ hr
  have hpl := fun w => place_any r i _ _ fr fi (by omega) (by omega) w
  have hb : (chk x y && chk u v) = true := by simp [h1, h2]
  clear hr fr fi c1 c2 c3 c4 h1 h2 m1 m2 m3 m4
  generalize x * u - y * v = X at *
  generalize x * v + y * u = Y at *
  obtain ⟨px, py, pe, hV⟩ : ∃ px py pe : Int, placeV X Y = .tuple #[.agg #[.int .i64 px, .int .i64 py], .int .i64 pe] := by
    unfold placeV; split <;> exact ⟨_, _, _, rfl⟩
  rw [hV]
  rw [hV] at hpl
  clear hV
  obtain ⟨W0, hW0⟩ : ∃ W0 : World, W0 = (w.alloc (.cells #[.int .i64 x, .int .i64 y] 23)).alloc (.cells #[.int .i64 u, .int .i64 v] 23) := ⟨_, rfl⟩
  have k0 : ∀ w', Ext W0 w' → w'.cell? ⟨w.heap.size, 0, none⟩ = some (.int .i64 x) := fun w' h => (hW0 ▸ h).cell_two0 0
  have k1 : ∀ w', Ext W0 w' → w'.cell? ⟨w.heap.size, 1, none⟩ = some (.int .i64 y) := fun w' h => (hW0 ▸ h).cell_two0 1
  have k2 : ∀ w', Ext W0 w' → w'.cell? ⟨w.heap.size + 1, 0, none⟩ = some (.int .i64 u) := fun w' h => (hW0 ▸ h).cell_two1 0
  have k3 : ∀ w', Ext W0 w' → w'.cell? ⟨w.heap.size + 1, 1, none⟩ = some (.int .i64 v) := fun w' h => (hW0 ▸ h).cell_two1 1
  have hs : W0.heap.size = w.heap.size + 1 + 1 := by rw [hW0]; simp
  have k8 : Ext w W0 := by rw [hW0]; (repeat' (first | exact Ext.refl _ | assumption | (apply Ext.after; assumption) | (refine Ext.alloc ?_ _) | (refine Ext.drew ?_) | (refine Ext.drewN ?_ _) | (refine Ext.setCell ?_ ?_ _) | (simp; done) | (simp; omega) | omega))
  have k4 : ∀ w', Wr 2 (w.heap.size + 1 + 1) w' → w'.cell? ⟨w.heap.size + 1 + 1, 0, none⟩ = some (cellOf w' (w.heap.size + 1 + 1) 0) := fun w' h => h.cell (by decide)
  have k5 : ∀ w', Wr 2 (w.heap.size + 1 + 1) w' → w'.cell? ⟨w.heap.size + 1 + 1, 1, none⟩ = some (cellOf w' (w.heap.size + 1 + 1) 1) := fun w' h => h.cell (by decide)
  have k6 : ∀ w', Wr 2 (w.heap.size + 1 + 1) w' → w'.frozen? ⟨w.heap.size + 1 + 1, 0, none⟩ = false := fun w' h => h.frozen (by decide)
  have k7 : ∀ w', Wr 2 (w.heap.size + 1 + 1) w' → w'.frozen? ⟨w.heap.size + 1 + 1, 1, none⟩ = false := fun w' h => h.frozen (by decide)
  have hS := Nat.le_of_eq hs
  have HW0 := Lib.hid hW0
  clear hW0
  clear hs
  go_enter Try.func22, Try.ntmps22
  go_wp2_with fail
  refine (both_any _ _ _ _ _).mono ?_
  rintro e w1 ⟨rfl, hx⟩
  rw [hb]
  have k9 : Ext W0 w1 := by rw [HW0.out]; (repeat' (first | exact Ext.refl _ | assumption | (apply Ext.after; assumption) | (refine Ext.alloc ?_ _) | (refine Ext.drew ?_) | (refine Ext.drewN ?_ _) | (refine Ext.setCell ?_ ?_ _) | (simp; done) | (simp; omega) | omega))
  have ka : Wr 2 (w.heap.size + 1 + 1) w1 := Wr.after hx (by (repeat' (first | assumption | (apply Wr.after; assumption) | (refine Wr.newAt _ _ _ _ _ ?_ ?_) | (refine Wr.alloc ?_ _) | (refine Wr.setCell ?_ _ _) | (refine Wr.drew ?_) | (simp; done) | (simp; omega) | omega)))
  clear hx
  go_wp2_with fail
  go_region_held3 (fun w' => Ext W0 w' ∧ Wr 2 (w.heap.size + 1 + 1) w')
    ((go_split_ands; refine ⟨?_, ?_⟩ <;> (first | assumption | ((repeat' (first | exact Ext.refl _ | assumption | (apply Ext.after; assumption) | (refine Ext.alloc ?_ _) | (refine Ext.drew ?_) | (refine Ext.drewN ?_ _) | (refine Ext.setCell ?_ ?_ _) | (simp; done) | (simp; omega) | omega)); done) | ((repeat' (first | assumption | (apply Wr.after; assumption) | (refine Wr.newAt _ _ _ _ _ ?_ ?_) | (refine Wr.alloc ?_ _) | (refine Wr.setCell ?_ _ _) | (refine Wr.drew ?_) | (simp; done) | (simp; omega) | omega)); done))))
    ((first | (go_at_call 40; refine (of_any _ _ _).mono ?_; rintro e w2 ⟨rfl, hx2⟩) | (go_at_call 39; refine (hpl _).mono ?_; rintro e w2 ⟨rfl, hx2⟩)))
  go_split_ands
  have kw : Wr 2 (w.heap.size + 1 + 1) w2 := by (repeat' (first | assumption | (apply Wr.after; assumption) | (refine Wr.newAt _ _ _ _ _ ?_ ?_) | (refine Wr.alloc ?_ _) | (refine Wr.setCell ?_ _ _) | (refine Wr.drew ?_) | (simp; done) | (simp; omega) | omega))
  have e0 := kw.cell (i := 0) (by decide)
  have e1 := kw.cell (i := 1) (by decide)
  go_wp2
  refine bodyPost_ret (v := .tuple #[.agg #[.int .i64 px, .int .i64 py], .int .i64 pe]) ?_ rfl ⟨rfl, k8.trans ?_⟩
  · simp [results, Try.results22, go_sem, cell_set, e0, e1]
  · assumption

end Go.Proofs.Ytleogddijlabdaa
