/- The law TrackerNil, walked. -/
import Derived.Test.YtleogddijlabdaaDoorFewA
import Derived.Test.YtleogddijlabdaaDoorTrkW
set_option linter.unusedSimpArgs false
set_option linter.unusedVariables false
namespace Go.Proofs.YtleogddijlabdaaDoor
open Go.RowKit Go.Maps

set_option maxHeartbeats 1000000 in
theorem nil_find (s : ByteArray) (x y k now : Int) (w : World) : Calls Tryd.prog 6 #[.pointer none, .string s, .agg #[.int .i64 x, .int .i64 y], .int .i64 k, .int .i64 now] w fun e w' => e = .returned (.tuple #[.slice none 0 0, .int .i64 1]) ∧ Ext w w' := by
  go_enter Tryd.func6, Tryd.ntmps6
  go_wp2_with fail
  go_ret2
  exact ⟨rfl, by (repeat' (first | exact Ext.refl _ | assumption | (apply Ext.after; assumption) | (refine Ext.alloc ?_ _) | (refine Ext.drew ?_) | (refine Ext.drewN ?_ _) | (refine Ext.setCell ?_ ?_ _) | (simp; done) | (simp; omega) | omega))⟩
set_option maxHeartbeats 1000000 in
theorem nil_link (s t : ByteArray) (x y now : Int) (w : World) : Calls Tryd.prog 7 #[.pointer none, .string s, .string t, .agg #[.int .i64 x, .int .i64 y], .int .i64 now] w fun e w' => e = .returned (.tuple #[.string ByteArray.empty, .int .i64 1]) ∧ Ext w w' := by
  go_enter Tryd.func7, Tryd.ntmps7
  go_wp2_with fail
  refine (nil_find _ _ _ _ _ _).mono ?_
  rintro e w1 ⟨rfl, hx⟩
  go_wp2_with fail
  go_ret2
  exact ⟨rfl, by (repeat' (first | exact Ext.refl _ | assumption | (apply Ext.after; assumption) | (refine Ext.alloc ?_ _) | (refine Ext.drew ?_) | (refine Ext.drewN ?_ _) | (refine Ext.setCell ?_ ?_ _) | (simp; done) | (simp; omega) | omega))⟩
set_option maxHeartbeats 1000000 in
theorem nil_ann (a : NoteV) (now : Int) (w : World) : Calls Tryd.prog 8 #[.pointer none, a.val, .int .i64 now] w fun e w' => e = .returned (.int .i64 1) ∧ Ext w w' := by
  unfold NoteV.val
  go_enter Tryd.func8, Tryd.ntmps8
  go_wp2_with fail
  go_ret
  exact ⟨rfl, by (repeat' (first | exact Ext.refl _ | assumption | (apply Ext.after; assumption) | (refine Ext.alloc ?_ _) | (refine Ext.drew ?_) | (refine Ext.drewN ?_ _) | (refine Ext.setCell ?_ ?_ _) | (simp; done) | (simp; omega) | omega))⟩
set_option maxHeartbeats 1000000 in
theorem nil_leave (s : ByteArray) (nd now : Int) (w : World) : Calls Tryd.prog 9 #[.pointer none, .string s, .int .i64 nd, .int .i64 now] w fun e w' => e = .returned (.int .i64 1) ∧ Ext w w' := by
  go_enter Tryd.func9, Tryd.ntmps9
  go_wp2_with fail
  go_ret
  exact ⟨rfl, by (repeat' (first | exact Ext.refl _ | assumption | (apply Ext.after; assumption) | (refine Ext.alloc ?_ _) | (refine Ext.drew ?_) | (refine Ext.drewN ?_ _) | (refine Ext.setCell ?_ ?_ _) | (simp; done) | (simp; omega) | omega))⟩
set_option maxHeartbeats 1000000 in
theorem nil_names (now : Int) (w : World) : Calls Tryd.prog 10 #[.pointer none, .int .i64 now] w fun e w' => e = .returned (.slice none 0 0) ∧ Ext w w' := by
  go_enter Tryd.func10, Tryd.ntmps10
  go_wp2_with fail
  go_ret
  exact ⟨rfl, by (repeat' (first | exact Ext.refl _ | assumption | (apply Ext.after; assumption) | (refine Ext.alloc ?_ _) | (refine Ext.drew ?_) | (refine Ext.drewN ?_ _) | (refine Ext.setCell ?_ ?_ _) | (simp; done) | (simp; omega) | omega))⟩
set_option maxHeartbeats 1000000 in
theorem nil_nodes (s : ByteArray) (now : Int) (w : World) : Calls Tryd.prog 11 #[.pointer none, .string s, .int .i64 now] w fun e w' => e = .returned (.slice none 0 0) ∧ Ext w w' := by
  go_enter Tryd.func11, Tryd.ntmps11
  go_wp2_with fail
  go_ret
  exact ⟨rfl, by (repeat' (first | exact Ext.refl _ | assumption | (apply Ext.after; assumption) | (refine Ext.alloc ?_ _) | (refine Ext.drew ?_) | (refine Ext.drewN ?_ _) | (refine Ext.setCell ?_ ?_ _) | (simp; done) | (simp; omega) | omega))⟩
set_option maxHeartbeats 1000000 in
theorem nil_len (now : Int) (w : World) : Calls Tryd.prog 12 #[.pointer none, .int .i64 now] w fun e w' => e = .returned (.int .i64 0) ∧ Ext w w' := by
  go_enter Tryd.func12, Tryd.ntmps12
  go_wp2_with fail
  refine (nil_names _ _).mono ?_
  rintro e w1 ⟨rfl, hx⟩
  go_wp2_with fail
  go_ret
  exact ⟨rfl, by (repeat' (first | exact Ext.refl _ | assumption | (apply Ext.after; assumption) | (refine Ext.alloc ?_ _) | (refine Ext.drew ?_) | (refine Ext.drewN ?_ _) | (refine Ext.setCell ?_ ?_ _) | (simp; done) | (simp; omega) | omega))⟩

set_option maxRecDepth 100000 in
set_option maxHeartbeats 4000000 in
theorem Nil_walk (x : ActV) (y : AskV) (w : World) :
    Calls Tryd.prog 3 #[.agg x.list.toArray, y.val] w fun e w' => e = .returned (.bool true) ∧ Ext w w' := by
  have HFW := Lib.hid (fun v W h => few_any v [x] y W h (by simp))
  obtain ⟨ak, an, ⟨nn, nd, nX, nY, nt⟩⟩ := x
  obtain ⟨yn, yt, yx, yy, yk, yw⟩ := y
  simp only [ActV.list]
  unfold AskV.val at HFW ⊢
  simp only at HFW
  go_enter Tryd.func3, Tryd.ntmps3
  go_wp2_with fail
  refine (HFW.out _ _ (Or.inr ⟨w.heap.size + 1 + 1, 0, 1, rfl, fun i hi j u hj => ?_⟩)).mono ?_
  · obtain rfl : i = 0 := by simp at hi; omega
    rw [show (0 : Nat) + 0 * 7 + j = j by omega]
    exact (World.cell?_alloc_at _ _ _ j (by simp)).trans (by simpa [actAt, ActV.list] using hj)
  rintro e w1 ⟨rfl, hx1⟩
  have a1 : w1.cell? ⟨w.heap.size, 1, none⟩ = some (.int .i64 an) := hx1.cell_three0 1
  have a2 : w1.cell? ⟨w.heap.size, 2, none⟩ = some (.string nn) := hx1.cell_three0 2
  have a3 : w1.cell? ⟨w.heap.size, 3, none⟩ = some (.int .i64 nd) := hx1.cell_three0 3
  have a4 : w1.cell? ⟨w.heap.size, 4, none⟩ = some (.int .i64 nX) := hx1.cell_three0 4
  have a5 : w1.cell? ⟨w.heap.size, 5, none⟩ = some (.int .i64 nY) := hx1.cell_three0 5
  have a6 : w1.cell? ⟨w.heap.size, 6, none⟩ = some (.int .i64 nt) := hx1.cell_three0 6
  have b0 : w1.cell? ⟨w.heap.size + 1, 0, none⟩ = some (.string yn) := hx1.cell_three1 0
  have b1 : w1.cell? ⟨w.heap.size + 1, 1, none⟩ = some (.string yt) := hx1.cell_three1 1
  have b2 : w1.cell? ⟨w.heap.size + 1, 2, none⟩ = some (.int .i64 yx) := hx1.cell_three1 2
  have b3 : w1.cell? ⟨w.heap.size + 1, 3, none⟩ = some (.int .i64 yy) := hx1.cell_three1 3
  have b4 : w1.cell? ⟨w.heap.size + 1, 4, none⟩ = some (.int .i64 yk) := hx1.cell_three1 4
  have b5 : w1.cell? ⟨w.heap.size + 1, 5, none⟩ = some (.int .i64 yw) := hx1.cell_three1 5
  have hxw : Ext w w1 := Ext.trans (((((Ext.refl w).alloc _).alloc _).alloc _)) hx1
  have HXW := Lib.hid hxw
  clear hx1 hxw HFW
  generalize fewB [(⟨ak, an, ⟨nn, nd, nX, nY, nt⟩⟩ : ActV)] ⟨yn, yt, yx, yy, yk, yw⟩ = F
  cases F with
  | false =>
    go_wp2_with fail
    refine (awake31_any _).mono ?_
    rintro e w2 ⟨rfl, hx2⟩
    go_wp2_with fail
    go_ret
    exact ⟨rfl, HXW.out.trans hx2⟩
  | true =>
    go_wp2_with fail
    refine (nil_find yn yx yy yk yw _).mono ?_
    rintro e w2 ⟨rfl, hx2⟩
    have c0 := hx2.cellAt b0
    have c1 := hx2.cellAt b1
    have c2 := hx2.cellAt b2
    have c3 := hx2.cellAt b3
    have c5 := hx2.cellAt b5
    go_wp2_with fail
    refine (nil_link yn yt yx yy yw _).mono ?_
    rintro e w3 ⟨rfl, hx3⟩
    have hx := hx2.trans hx3
    have r1 : ∀ w', Ext w3 w' → w'.cell? ⟨w.heap.size, 1, none⟩ = some (.int .i64 an) := fun w' q => q.cellAt (hx.cellAt a1)
    have r2 : ∀ w', Ext w3 w' → w'.cell? ⟨w.heap.size, 2, none⟩ = some (.string nn) := fun w' q => q.cellAt (hx.cellAt a2)
    have r3 : ∀ w', Ext w3 w' → w'.cell? ⟨w.heap.size, 3, none⟩ = some (.int .i64 nd) := fun w' q => q.cellAt (hx.cellAt a3)
    have r4 : ∀ w', Ext w3 w' → w'.cell? ⟨w.heap.size, 4, none⟩ = some (.int .i64 nX) := fun w' q => q.cellAt (hx.cellAt a4)
    have r5 : ∀ w', Ext w3 w' → w'.cell? ⟨w.heap.size, 5, none⟩ = some (.int .i64 nY) := fun w' q => q.cellAt (hx.cellAt a5)
    have r6 : ∀ w', Ext w3 w' → w'.cell? ⟨w.heap.size, 6, none⟩ = some (.int .i64 nt) := fun w' q => q.cellAt (hx.cellAt a6)
    have s0 : ∀ w', Ext w3 w' → w'.cell? ⟨w.heap.size + 1, 0, none⟩ = some (.string yn) := fun w' q => q.cellAt (hx.cellAt b0)
    have s5 : ∀ w', Ext w3 w' → w'.cell? ⟨w.heap.size + 1, 4, none⟩ = some (.int .i64 yk) := fun w' q => q.cellAt (hx.cellAt b4)
    have s4 : ∀ w', Ext w3 w' → w'.cell? ⟨w.heap.size + 1, 5, none⟩ = some (.int .i64 yw) := fun w' q => q.cellAt (hx.cellAt b5)
    have HX3 := Lib.hid (HXW.out.trans hx)
    clear a1 a2 a3 a4 a5 a6 b0 b1 b2 b3 b4 b5 c0 c1 c2 c3 c5 hx hx2 hx3 HXW
    have e0 : ((ByteArray.empty : ByteArray) == ByteArray.empty) = true := by decide
    go_wp2_with fail
    go_region_held3 (fun w' => Ext w3 w') ((first | assumption | ((repeat' (first | exact Ext.refl _ | assumption | (apply Ext.after; assumption) | (refine Ext.alloc ?_ _) | (refine Ext.drew ?_) | (refine Ext.drewN ?_ _) | (refine Ext.setCell ?_ ?_ _) | (simp; done) | (simp; omega) | omega)); done))) ((first
      | (go_at_call 5; refine (awake31_any _).mono ?_; rintro e w6 ⟨rfl, hx6⟩)
      | (go_at_call 8; refine (nil_ann ⟨nn, nd, nX, nY, nt⟩ _ _).mono ?_; rintro e w6 ⟨rfl, hx6⟩)
      | (go_at_call 9; refine (nil_leave _ _ _ _).mono ?_; rintro e w6 ⟨rfl, hx6⟩)
      | (go_at_call 10; refine (nil_names _ _).mono ?_; rintro e w6 ⟨rfl, hx6⟩)
      | (go_at_call 11; refine (nil_nodes _ _ _).mono ?_; rintro e w6 ⟨rfl, hx6⟩)
      | (go_at_call 12; refine (nil_len _ _).mono ?_; rintro e w6 ⟨rfl, hx6⟩)))
    all_goals
      have hxe : Ext w3 w6 := by assumption
      go_wp2
      go_ret
      exact ⟨rfl, HX3.out.trans hxe⟩

end Go.Proofs.YtleogddijlabdaaDoor
