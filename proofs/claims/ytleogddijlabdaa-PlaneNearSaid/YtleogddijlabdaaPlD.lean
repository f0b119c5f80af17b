/- The example of package plane: a turn, the spiral. -/
import Derived.Test.YtleogddijlabdaaPlC
set_option linter.unusedSimpArgs false
set_option linter.unusedVariables false
namespace Go.Proofs.Ytleogddijlabdaa
open Go.RowKit Flt

set_option maxHeartbeats 400000 in
theorem Turn_1 (w : World) :
    Calls Try.prog 23 #[.agg #[.int .i64 1, .int .i64 2], .int .i64 1] w fun e w' => e = .returned (placeV (-2) 1) ∧ Ext w w' := by
  have c1 := ofC 1 (by decide)
  have c2 := ofC 2 (by decide)
  have hpl := fun w => place_any _ _ _ _ (FI_neg c2) c1 (by decide) (by decide) w
  have hn : Op.unary .neg (.float .f64 (FloatKind.f64.nearest 2)) = pure (.float .f64 (Op.negFloat .f64 (FloatKind.f64.nearest 2))) := rfl
  have hV : placeV (-2) 1 = .tuple #[.agg #[.int .i64 (-2), .int .i64 1], .int .i64 0] := by rfl
  rw [hV] at hpl ⊢
  have hk : chk 1 2 = true := by rfl
  clear c1 c2 hV
  go_enter Try.func23, Try.ntmps23
  go_wp2_with fail
  refine (Check_any _ _ _).mono ?_
  rintro e w1 ⟨rfl, hx⟩
  rw [hk]
  clear hk
  have hc := hx.cell
  have hz := hx.size
  simp at hz
  go_wp2_with fail
  refine (of_any _ _ _).mono ?_
  rintro e w2 ⟨rfl, hx2⟩
  generalize FloatKind.f64.nearest 2 = F2 at *
  generalize FloatKind.f64.nearest 1 = F1 at *
  go_wp2_with fail
  go_loop [6, 17] (fun z i => (i = .int .i64 0 ∧ z = .complex .f64 F1 F2) ∨ (i = .int .i64 1 ∧ z = .complex .f64 (Op.negFloat .f64 F2) F1)) (fun _ i => 1 - (intOf i).toNat)
  case atStart => exact Or.inl ⟨rfl, rfl⟩
  case round =>
    rcases hrel with ⟨rfl, rfl⟩ | ⟨rfl, rfl⟩
    · go_wp2
      go_round
      case rel => exact Or.inr ⟨rfl, rfl⟩
      case measure => simp [intOf]
    · go_wp2_with fail
      refine (hpl _).mono ?_
      rintro e w3 ⟨rfl, hx3⟩
      have t1 : Ext w w3 := by (repeat' (first | exact Ext.refl _ | assumption | (apply Ext.after; assumption) | (refine Ext.alloc ?_ _) | (refine Ext.drew ?_) | (refine Ext.drewN ?_ _) | (refine Ext.setCell ?_ ?_ _) | (simp; done) | (simp; omega) | omega))
      have kw : Wr 2 (w.heap.size + 1) w3 := Wr.after hx3 (Wr.after hx2 (Wr.after hx (by (repeat' (first | assumption | (apply Wr.after; assumption) | (refine Wr.newAt _ _ _ _ _ ?_ ?_) | (refine Wr.alloc ?_ _) | (refine Wr.setCell ?_ _ _) | (refine Wr.drew ?_) | (simp; done) | (simp; omega) | omega)))))
      have e0 := kw.cell (i := 0) (by decide)
      have e1 := kw.cell (i := 1) (by decide)
      have f0 := kw.frozen (i := 0) (by decide)
      have f1 := kw.frozen (i := 1) (by decide)
      go_wp2
      refine bodyPost_ret (v := .tuple #[.agg #[.int .i64 (-2), .int .i64 1], .int .i64 0]) ?_ rfl ⟨rfl, ?_⟩
      · simp [results, Try.results23, go_sem, cell_set, e0, e1]
      · (repeat' (first | exact Ext.refl _ | assumption | (apply Ext.after; assumption) | (refine Ext.alloc ?_ _) | (refine Ext.drew ?_) | (refine Ext.drewN ?_ _) | (refine Ext.setCell ?_ ?_ _) | (simp; done) | (simp; omega) | omega))

theorem cornerI (w : World) :
    Calls Try.prog 41 #[.int .i64 1] w fun e w' => e = .returned (.complex .f64 (FloatKind.f64.nearest 1) (FloatKind.f64.nearest 1)) ∧ w' = w := by
  have f1 := floatI
  go_enter Try.func41, Try.ntmps41
  go_wp2
  go_ret
  exact ⟨rfl, rfl⟩

theorem two_mul_succ (s : Int) (h : 2 ≤ s) (h2 : s ≤ 1048576) : 6 ≤ s * (s + 1) ∧ s * (s + 1) ≤ 1099512676352 := by
  have a : 2 * 3 ≤ s * (s + 1) := Int.mul_le_mul h (by omega) (by omega) (by omega)
  have b : s * (s + 1) ≤ 1048576 * 1048577 := Int.mul_le_mul h2 (by omega) (by omega) (by omega)
  omega

set_option maxHeartbeats 400000 in
theorem Spiral_4 (w : World) :
    Calls Try.prog 24 #[.int .i64 4] w fun e w' => e = .returned (placeV (-1) 1) ∧ Ext w w' := by
  have c1 := ofC 1 (by decide)
  have c2 := ofC 2 (by decide)
  have c0 := ofC 0 (by decide)
  have z0 : FI 0 0 := ⟨false, 1074, by decide +kernel, by simp, by simp⟩
  have n1 : FI 13830554455654793216 (-1) := ⟨true, 52, by decide +kernel, by simp, by simp⟩
  have p1 : FI 4607182418800017408 1 := ⟨false, 52, by decide +kernel, by simp, by simp⟩
  obtain ⟨a1, b1, m1, fa1, fb1⟩ := cMul c2 z0 n1 z0 (by decide) (by decide) (by decide) (by decide)
  obtain ⟨a2, b2, s1, fa2, fb2⟩ := cSum_add c1 c1 fa1 fb1 (by decide) (by decide)
  obtain ⟨a3, b3, m2, fa3, fb3⟩ := cMul c0 z0 n1 z0 (by decide) (by decide) (by decide) (by decide)
  obtain ⟨a4, b4, m3, fa4, fb4⟩ := cMul fa3 fb3 z0 p1 (by decide) (by decide) (by decide) (by decide)
  obtain ⟨a5, b5, s2, fa5, fb5⟩ := cSum_add fa2 fb2 fa4 fb4 (by decide) (by decide)
  have hpl := fun w => place_any _ _ (-1) 1 fa5 fb5 (by decide) (by decide) w
  have r1 := fun w => run_complex_mul (P := Try.prog) w 82 _ _ _ _ _ _ m1
  have r2 := fun w => run_complex_sum (P := Try.prog) w .add (Or.inl rfl) 82 .f64 _ _ _ _ _ _ s1
  have r3 := fun w => run_complex_mul (P := Try.prog) w 82 _ _ _ _ _ _ m2
  have r4 := fun w => run_complex_mul (P := Try.prog) w 82 _ _ _ _ _ _ m3
  have r5 := fun w => run_complex_sum (P := Try.prog) w .add (Or.inl rfl) 82 .f64 _ _ _ _ _ _ s2
  have hV : placeV (-1) 1 = .tuple #[.agg #[.int .i64 (-1), .int .i64 1], .int .i64 0] := by rfl
  rw [hV] at hpl ⊢
  have g2 := floatI 2
  have g0 := floatI 0
  have hco := cornerI
  clear c1 c2 c0 z0 n1 p1 m1 s1 m2 m3 s2 fa1 fb1 fa2 fb2 fa3 fb3 fa4 fb4 fa5 fb5 hV
  generalize FloatKind.f64.nearest 2 = F2 at *
  generalize FloatKind.f64.nearest 1 = F1 at *
  generalize FloatKind.f64.nearest 0 = F0 at *
  go_enter Try.func24, Try.ntmps24
  go_wp2_with fail
  go_loop [4, 5] (fun k s => ∃ q : Int, (s = .int .i64 q ∧ k = .int .i64 0 ∧ 1 ≤ q ∧ q ≤ 1048576) ∨ (s = .int .i64 0 ∧ k = .int .i64 1 ∧ q = 0)) (fun _ s => (intOf s).toNat)
  case atStart => exact ⟨1048576, Or.inl ⟨rfl, rfl, by decide, by decide⟩⟩
  case round =>
    rcases hrel with ⟨q, ⟨rfl, rfl, hq1, hq2⟩ | ⟨rfl, rfl, _⟩⟩
    · by_cases h2 : 2 ≤ q
      · have hm := two_mul_succ q h2 hq2
        go_wp2_with fail
        go_round
        case rel => exact ⟨q / 2, Or.inl ⟨rfl, rfl, by omega, by omega⟩⟩
        case measure => simp [intOf]; omega
      · have : q = 1 := by omega
        subst this
        go_wp2_with fail
        go_round
        case rel => exact ⟨0, Or.inr ⟨rfl, rfl, rfl⟩⟩
        case measure => simp [intOf]
    · have hw : Wr 2 w.heap.size (w.alloc (.cells #[.int .i64 0, .int .i64 0] 23)) := by (repeat' (first | assumption | (apply Wr.after; assumption) | (refine Wr.newAt _ _ _ _ _ ?_ ?_) | (refine Wr.alloc ?_ _) | (refine Wr.setCell ?_ _ _) | (refine Wr.drew ?_) | (simp; done) | (simp; omega) | omega))
      go_wp2_with fail
      refine (hco _).mono ?_
      rintro e w2 ⟨rfl, rfl⟩
      go_wp2_with fail
      refine (hpl _).mono ?_
      rintro e w3 ⟨rfl, hx3⟩
      have kw := hw.ext hx3
      have e0 := kw.cell (i := 0) (by decide)
      have e1 := kw.cell (i := 1) (by decide)
      have g0 := kw.frozen (i := 0) (by decide)
      have g1 := kw.frozen (i := 1) (by decide)
      go_wp2
      refine bodyPost_ret (v := .tuple #[.agg #[.int .i64 (-1), .int .i64 1], .int .i64 0]) ?_ rfl ⟨rfl, ?_⟩
      · simp [results, Try.results24, go_sem, cell_set, e0, e1]
      · (repeat' (first | exact Ext.refl _ | assumption | (apply Ext.after; assumption) | (refine Ext.alloc ?_ _) | (refine Ext.drew ?_) | (refine Ext.drewN ?_ _) | (refine Ext.setCell ?_ ?_ _) | (simp; done) | (simp; omega) | omega))

set_option maxHeartbeats 400000 in
theorem awake17 (w : World) : Calls Try.prog 7 #[] w fun e w' => e = .returned (.bool true) ∧ Ext w w' := by
  have h1 : ∀ w, Calls Try.prog 22 #[.agg #[.int .i64 1, .int .i64 2], .agg #[.int .i64 3, .int .i64 (-1)]] w fun e w' => e = .returned (.tuple #[.agg #[.int .i64 5, .int .i64 5], .int .i64 0]) ∧ Ext w w' :=
    fun w => (Mul_yes 1 2 3 (-1) rfl rfl w).mono fun e w' h => h
  have h2 : ∀ w, Calls Try.prog 23 #[.agg #[.int .i64 1, .int .i64 2], .int .i64 1] w fun e w' => e = .returned (.tuple #[.agg #[.int .i64 (-2), .int .i64 1], .int .i64 0]) ∧ Ext w w' :=
    fun w => (Turn_1 w).mono fun e w' h => h
  have h3 : ∀ w, Calls Try.prog 24 #[.int .i64 4] w fun e w' => e = .returned (.tuple #[.agg #[.int .i64 (-1), .int .i64 1], .int .i64 0]) ∧ Ext w w' :=
    fun w => (Spiral_4 w).mono fun e w' h => h
  go_enter Try.func7, Try.ntmps7
  go_wp2_with fail
  refine (h1 _).mono ?_
  rintro e w1 ⟨rfl, x1⟩
  go_wp2_with fail
  refine (h2 _).mono ?_
  rintro e w2 ⟨rfl, x2⟩
  have z2 := x2.size
  have c2 := x2.cell
  simp at z2
  go_wp2_with fail
  refine (h3 _).mono ?_
  rintro e w3 ⟨rfl, x3⟩
  have z3 := x3.size
  simp at z3
  have p0 : w2.cell? ⟨w1.heap.size, 0, none⟩ = some (.int .i64 5) := x2.cell_one 0
  have p1 : w2.cell? ⟨w1.heap.size, 1, none⟩ = some (.int .i64 5) := x2.cell_one 1
  have q0 := x3.cellAt (((Ext.refl w2).alloc _).cellAt p0)
  have q1 := x3.cellAt (((Ext.refl w2).alloc _).cellAt p1)
  have q2 : w3.cell? ⟨w2.heap.size, 0, none⟩ = some (.int .i64 (-2)) := x3.cell_one 0
  have q3 : w3.cell? ⟨w2.heap.size, 1, none⟩ = some (.int .i64 1) := x3.cell_one 1
  have l1 : w1.heap.size < w3.heap.size := by omega
  have l2 : w2.heap.size < w3.heap.size := by omega
  have xx : Ext w w3 := x1.trans (((Ext.refl w1).alloc _).trans (x2.trans (((Ext.refl w2).alloc _).trans x3)))
  clear p0 p1 c2
  go_wp2_with fail
  go_ret
  exact ⟨rfl, xx.alloc _⟩

end Go.Proofs.Ytleogddijlabdaa
