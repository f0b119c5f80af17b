/- The comparison that plane.Near sorts by. -/
import Derived.Test.YtleogddijlabdaaPlB
import Derived.Test.YtleogddijlabdaaRow
set_option linter.unusedSimpArgs false
set_option linter.unusedVariables false
namespace Go.Proofs.Ytleogddijlabdaa
open Go.RowKit

def cmpI (x y : Int) : Int := if x < y then -1 else if y < x then 1 else 0

set_option maxHeartbeats 400000 in
theorem isNaN_int (x : Int) (w : World) : Calls Try.prog 45 #[.int .i64 x] w fun e w' => e = .returned (.bool false) ∧ w' = w := by
  have e1 : (x != x) = false := by simp
  go_enter Try.func45, Try.ntmps45
  go_wp2_with fail
  go_ret
  exact ⟨rfl, rfl⟩

set_option maxHeartbeats 400000 in
theorem Compare_int (x y : Int) (w : World) : Calls Try.prog 30 #[.int .i64 x, .int .i64 y] w fun e w' => e = .returned (.int .i64 (cmpI x y)) ∧ w' = w := by
  rcases Int.lt_trichotomy x y with h | h | h
  · go_enter Try.func30, Try.ntmps30
    go_wp2_with (go_at_call 45; refine (isNaN_int _ _).mono ?_; rintro e w' ⟨rfl, rfl⟩)
    go_ret
    exact ⟨by simp [cmpI, h], rfl⟩
  · subst h
    go_enter Try.func30, Try.ntmps30
    go_wp2_with (go_at_call 45; refine (isNaN_int _ _).mono ?_; rintro e w' ⟨rfl, rfl⟩)
    go_ret
    exact ⟨by simp [cmpI], rfl⟩
  · have h' : ¬ x < y := by omega
    go_enter Try.func30, Try.ntmps30
    go_wp2_with (go_at_call 45; refine (isNaN_int _ _).mono ?_; rintro e w' ⟨rfl, rfl⟩)
    go_ret
    exact ⟨by simp [cmpI, h, h'], rfl⟩

/-- What the comparison reads: the place from which is measured, and the places. -/
structure NearEnv (w : World) (A L pb off n cap : Nat) (x y : Int) (px py : Nat → Int) : Prop where
  ax : w.cell? ⟨A, 0, none⟩ = some (.int .i64 x)
  ay : w.cell? ⟨A, 1, none⟩ = some (.int .i64 y)
  sl : w.cell? ⟨L, 0, none⟩ = some (.slice (some ⟨pb, off, none⟩) n cap)
  cx : ∀ i, i < n → w.cell? ⟨pb, off + i * 2, none⟩ = some (.int .i64 (px i))
  cy : ∀ i, i < n → w.cell? ⟨pb, off + i * 2 + 1, none⟩ = some (.int .i64 (py i))

theorem NearEnv.ext {w w' : World} {A L pb off n cap : Nat} {x y : Int} {px py : Nat → Int} (h : NearEnv w A L pb off n cap x y px py) (k : Ext w w') : NearEnv w' A L pb off n cap x y px py :=
  ⟨k.cellAt h.ax, k.cellAt h.ay, k.cellAt h.sl, fun i hi => k.cellAt (h.cx i hi), fun i hi => k.cellAt (h.cy i hi)⟩

set_option maxHeartbeats 1000000 in
theorem near2_any (A L pb off n cap : Nat) (x y : Int) (px py : Nat → Int) (i k : Nat) (hi : i < n) (hk : k < n) (hn : n ≤ 1000) (w : World) (h : NearEnv w A L pb off n cap x y px py) :
    Calls Try.prog 29 #[.int .i64 i, .int .i64 k, .pointer (some ⟨A, 0, none⟩), .pointer (some ⟨L, 0, none⟩)] w fun e w' =>
      e = .returned (.int .i64 (cmpI (dist x y (px i) (py i)) (dist x y (px k) (py k)))) ∧ Ext w w' := by
  have k0 : ∀ w', Ext w w' → w'.cell? ⟨A, 0, none⟩ = some (.int .i64 x) := fun w' q => q.cellAt h.ax
  have k1 : ∀ w', Ext w w' → w'.cell? ⟨A, 1, none⟩ = some (.int .i64 y) := fun w' q => q.cellAt h.ay
  have k2 : ∀ w', Ext w w' → w'.cell? ⟨L, 0, none⟩ = some (.slice (some ⟨pb, off, none⟩) n cap) := fun w' q => q.cellAt h.sl
  have k3 : ∀ w', Ext w w' → w'.cell? ⟨pb, off + i * 2, none⟩ = some (.int .i64 (px i)) := fun w' q => q.cellAt (h.cx i hi)
  have k4 : ∀ w', Ext w w' → w'.cell? ⟨pb, off + i * 2 + 1, none⟩ = some (.int .i64 (py i)) := fun w' q => q.cellAt (h.cy i hi)
  have k5 : ∀ w', Ext w w' → w'.cell? ⟨pb, off + k * 2, none⟩ = some (.int .i64 (px k)) := fun w' q => q.cellAt (h.cx k hk)
  have k6 : ∀ w', Ext w w' → w'.cell? ⟨pb, off + k * 2 + 1, none⟩ = some (.int .i64 (py k)) := fun w' q => q.cellAt (h.cy k hk)
  have kk := Ext.refl w
  have i0 : (0 : Int) ≤ (i : Int) := by omega
  have i1 : (i : Int) < (n : Int) := by omega
  have j0 : (0 : Int) ≤ (k : Int) := by omega
  have j1 : (k : Int) < (n : Int) := by omega
  clear h
  go_enter Try.func29, Try.ntmps29
  go_wp2_with fail
  go_region_held3 (fun w' => Ext w w')
    ((first | assumption | ((repeat' (first | exact Ext.refl _ | assumption | (apply Ext.after; assumption) | (refine Ext.alloc ?_ _) | (refine Ext.drew ?_) | (refine Ext.drewN ?_ _) | (refine Ext.setCell ?_ ?_ _) | (simp; done) | (simp; omega) | omega)); done)))
    ((first | (go_at_call 31; refine (Dist_any _ _ _ _ _).mono ?_; rintro e w2 ⟨rfl, hx2⟩) | (go_at_call 30; refine (Compare_int _ _ _).mono ?_; rintro e w2 ⟨rfl, rfl⟩)))
  go_wp2
  go_ret
  exact ⟨rfl, by assumption⟩

end Go.Proofs.Ytleogddijlabdaa
