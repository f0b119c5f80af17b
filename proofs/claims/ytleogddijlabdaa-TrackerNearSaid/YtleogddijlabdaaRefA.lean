/- The document's places: Check, Dist; slices of whole numbers; sorted lists. -/
import Derived.Test.YtleogddijlabdaaPlB
import Derived.Test.YtleogddijlabdaaSrtM
set_option linter.unusedSimpArgs false
set_option linter.unusedVariables false
namespace Go.Proofs.Ytleogddijlabdaa
open Go.RowKit

set_option maxHeartbeats 400000 in
theorem rCheck_any (x y : Int) (w : World) :
    Calls Try.prog 32 #[.agg #[.int .i64 x, .int .i64 y]] w fun e w' => e = .returned (.bool (chk x y)) ∧ Ext w w' := by
  by_cases h1 : -1048576 ≤ x
  · by_cases h2 : x ≤ 1048576
    · by_cases h3 : -1048576 ≤ y
      · go_enter Try.func32, Try.ntmps32
        go_wp2_with fail
        go_ret
        exact ⟨by simp [chk, within, h1, h2, h3], by (repeat' (first | exact Ext.refl _ | assumption | (apply Ext.after; assumption) | (refine Ext.alloc ?_ _) | (refine Ext.drew ?_) | (refine Ext.drewN ?_ _) | (refine Ext.setCell ?_ ?_ _) | (simp; done) | (simp; omega) | omega))⟩
      · go_enter Try.func32, Try.ntmps32
        go_wp2_with fail
        go_ret
        exact ⟨by simp [chk, within]; omega, by (repeat' (first | exact Ext.refl _ | assumption | (apply Ext.after; assumption) | (refine Ext.alloc ?_ _) | (refine Ext.drew ?_) | (refine Ext.drewN ?_ _) | (refine Ext.setCell ?_ ?_ _) | (simp; done) | (simp; omega) | omega))⟩
    · go_enter Try.func32, Try.ntmps32
      go_wp2_with fail
      go_ret
      exact ⟨by simp [chk, within]; omega, by (repeat' (first | exact Ext.refl _ | assumption | (apply Ext.after; assumption) | (refine Ext.alloc ?_ _) | (refine Ext.drew ?_) | (refine Ext.drewN ?_ _) | (refine Ext.setCell ?_ ?_ _) | (simp; done) | (simp; omega) | omega))⟩
  · go_enter Try.func32, Try.ntmps32
    go_wp2_with fail
    go_ret
    exact ⟨by simp [chk, within]; omega, by (repeat' (first | exact Ext.refl _ | assumption | (apply Ext.after; assumption) | (refine Ext.alloc ?_ _) | (refine Ext.drew ?_) | (refine Ext.drewN ?_ _) | (refine Ext.setCell ?_ ?_ _) | (simp; done) | (simp; omega) | omega))⟩

set_option maxHeartbeats 1000000 in
theorem rDist_yes (x y u v : Int) (h1 : chk x y = true) (h2 : chk u v = true) (w : World) :
    Calls Try.prog 21 #[.agg #[.int .i64 x, .int .i64 y], .agg #[.int .i64 u, .int .i64 v]] w fun e w' => e = .returned (.int .i64 ((x - u) * (x - u) + (y - v) * (y - v))) ∧ Ext w w' := by
  have a1 := chk_iff.1 h1
  have a2 := chk_iff.1 h2
  have m1 := Flt.natAbs_mul_le (x := x - u) (u := x - u) (m := 2097152) (n := 2097152) (by omega) (by omega)
  have m2 := Flt.natAbs_mul_le (x := y - v) (u := y - v) (m := 2097152) (n := 2097152) (by omega) (by omega)
  have p1 : 0 ≤ (x - u) * (x - u) := by rcases Int.le_total 0 (x - u) with h | h; exact Int.mul_nonneg h h; exact Int.mul_nonneg_of_nonpos_of_nonpos h h
  have p2 : 0 ≤ (y - v) * (y - v) := by rcases Int.le_total 0 (y - v) with h | h; exact Int.mul_nonneg h h; exact Int.mul_nonneg_of_nonpos_of_nonpos h h
  have q1 : (x - u) * (x - u) ≤ 4398046511104 := by omega
  have q2 : (y - v) * (y - v) ≤ 4398046511104 := by omega
  clear m1 m2
  go_enter Try.func21, Try.ntmps21
  go_wp2_with fail
  refine (rCheck_any _ _ _).mono ?_
  rintro e w1 ⟨rfl, hx⟩
  rw [h1]
  have k0 := hx.cell_two0 0
  have k1 := hx.cell_two0 1
  have k2 := hx.cell_two1 0
  have k3 := hx.cell_two1 1
  simp at k0 k1 k2 k3
  have kx : Ext w w1 := by (repeat' (first | exact Ext.refl _ | assumption | (apply Ext.after; assumption) | (refine Ext.alloc ?_ _) | (refine Ext.drew ?_) | (refine Ext.drewN ?_ _) | (refine Ext.setCell ?_ ?_ _) | (simp; done) | (simp; omega) | omega))
  go_wp2_with fail
  refine (rCheck_any _ _ _).mono ?_
  rintro e w2 ⟨rfl, hx2⟩
  rw [h2]
  have l0 := hx2.cellAt k0
  have l1 := hx2.cellAt k1
  have l2 := hx2.cellAt k2
  have l3 := hx2.cellAt k3
  have lx : Ext w w2 := kx.trans hx2
  clear k0 k1 k2 k3 hx hx2 h1 h2
  go_wp2_with fail
  go_ret
  exact ⟨rfl, lx⟩

/-- A slice of whole numbers that is read. -/
def ISl (w : World) (v : Value) (xs : List Int) : Prop :=
  (v = .slice none 0 0 ∧ xs = []) ∨ ∃ b off cap, v = .slice (some ⟨b, off, none⟩) xs.length cap ∧ ∀ i, i < xs.length → w.cell? ⟨b, off + i, none⟩ = some (.int .i64 (xs.getD i 0))
theorem ISl.ext {w w' : World} {v : Value} {xs : List Int} (h : ISl w v xs) (k : Ext w w') : ISl w' v xs := by
  rcases h with h | ⟨b, off, cap, hv, hc⟩
  · exact Or.inl h
  · exact Or.inr ⟨b, off, cap, hv, fun i hi => k.cellAt (hc i hi)⟩
theorem ISl.of_own {w : World} {base : Nat} {v : Value} {xs : List Int} (h : w.ownsRow base 3 1 v xs.length (xs.map (Value.int .i64))) : ISl w v xs := by
  obtain ⟨h1, h2⟩ := h
  rcases h2 with ⟨hv, h0⟩ | ⟨g, cap, cur, hv, hb, hg, hnc, hcap, hsz, htk⟩
  · exact Or.inl ⟨hv, List.eq_nil_of_length_eq_zero h0⟩
  · refine Or.inr ⟨g, 0, cap, hv, fun i hi => ?_⟩
    have : (cur.toList.take (xs.length * 1))[i]? = (xs.map (Value.int .i64))[i]? := by rw [htk]
    rw [List.getElem?_take, if_pos (by omega), Array.getElem?_toList] at this
    rw [Nat.zero_add]
    simp only [World.cell?, hg]
    simp only [Option.isSome_none, Bool.false_eq_true, if_false]
    rw [this, List.getElem?_map, List.getElem?_eq_getElem hi, List.getD_eq_getElem?_getD, List.getElem?_eq_getElem hi]; rfl

open Srt in
/-- Two lists that are sorted by one order and hold the same are one. -/
theorem sorted_one {K : Int → Int} : ∀ {xs ys : List Int}, xs.Pairwise (Srt.LT K) → ys.Pairwise (Srt.LT K) → (∀ v, v ∈ xs ↔ v ∈ ys) → xs = ys
  | [], [], _, _, _ => rfl
  | [], y :: ys, _, _, h => by have := (h y).2 (by simp); simp at this
  | x :: xs, [], _, _, h => by have := (h x).1 (by simp); simp at this
  | x :: xs, y :: ys, hx, hy, h => by
    rw [List.pairwise_cons] at hx hy
    have e : x = y := by
      have h1 : x = y ∨ x ∈ ys := by simpa using (h x).1 (by simp)
      have h2 : y = x ∨ y ∈ xs := by simpa using (h y).2 (by simp)
      rcases h1 with h1 | h1
      · exact h1
      · rcases h2 with h2 | h2
        · exact h2.symm
        · exact (Srt.LT.irrefl ((hy.1 x h1).trans (hx.1 y h2))).elim
    subst e
    congr 1
    refine sorted_one hx.2 hy.2 fun v => ?_
    have := h v
    simp only [List.mem_cons] at this
    constructor
    · intro hv
      rcases this.1 (Or.inr hv) with e | e
      · subst e; exact (Srt.LT.irrefl (hx.1 v hv)).elim
      · exact e
    · intro hv
      rcases this.2 (Or.inr hv) with e | e
      · subst e; exact (Srt.LT.irrefl (hy.1 v hv)).elim
      · exact e

end Go.Proofs.Ytleogddijlabdaa
