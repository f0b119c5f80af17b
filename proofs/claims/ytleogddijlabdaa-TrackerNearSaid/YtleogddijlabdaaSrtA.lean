/- The stable sort's small parts: a range of places swapped; a rotation. -/
import Derived.Test.YtleogddijlabdaaProg
import Derived.Test.YtleogddijlabdaaRow
import Derived.BigRegion
import Derived.ChangeAlike
set_option linter.unusedSimpArgs false
set_option linter.unusedVariables false
namespace Go.Proofs.Ytleogddijlabdaa
open Go.RowKit

def swp (f : Nat → Int) (a b k p : Nat) : Int := if a ≤ p ∧ p < a + k then f (p - a + b) else if b ≤ p ∧ p < b + k then f (p - b + a) else f p

theorem swp_zero (f : Nat → Int) (a b : Nat) : swp f a b 0 = f := by
  funext p; unfold swp; rw [if_neg (by omega), if_neg (by omega)]

theorem swp_succ (f : Nat → Int) (a b k : Nat) (h : a + k < b) : ex (swp f a b k) (a + k) (b + k) = swp f a b (k + 1) := by
  funext p
  unfold ex swp
  repeat' split
  all_goals first | rfl | (exfalso; omega) | (congr 1; omega)

set_option maxHeartbeats 1000000 in
theorem swapRange_any (B n cap : Nat) (f : Nat → Int) (a b k : Nat) (cv : Value) (w : World) (hr : Row w B n f) (h1 : a + k ≤ b) (h2 : b + k ≤ n) (hn : n ≤ 1000) :
    Calls Try.prog 59 #[.slice (some ⟨B, 0, none⟩) n cap, .int .i64 a, .int .i64 b, .int .i64 k, cv] w fun e w' =>
      e = .returned (.tuple #[]) ∧ Row w' B n (swp f a b k) ∧ ExtBut B w w' := by
  go_enter Try.func59, Try.ntmps59
  go_wp2_with fail
  go_loopw [10] (fun i wr => ∃ q : Nat, i = .int .i64 q ∧ q ≤ k ∧ Row wr B n (swp f a b q) ∧ ExtBut B w wr) (fun i _ => k - (intOf i).toNat)
  case atStart => exact ⟨0, rfl, Nat.zero_le _, by rw [swp_zero]; exact hr, ExtBut.refl _ _⟩
  case round =>
    obtain ⟨q, rfl, hq, hrow, hx⟩ := hrel
    by_cases hlt : q < k
    · have c1 := (hrow (a + q) (by omega)).1
      have c2 := (hrow (b + q) (by omega)).1
      have f1 := (hrow (a + q) (by omega)).2
      have f2 := (hrow (b + q) (by omega)).2
      have hsw := Row.swap hrow (i := a + q) (j := b + q) (by omega) (by omega)
      have HS := Lib.hid hsw
      have HX := Lib.hid hx
      clear hrow hsw hx hr
      go_wp2_with fail
      go_region
      go_wp2
      go_roundw
      case rel => exact ⟨q + 1, by go_num, by omega, by rw [← swp_succ f a b q (by omega)]; exact HS.out, ((HX.out.setCell _ _).setCell _ _).drew⟩
      case measure => simp [intOf]; omega
    · go_wp2_with fail
      go_end0
      have : q = k := by omega
      subst this
      exact ⟨rfl, hrow, hx⟩

/-- A range of places, its two parts changed about. -/
def rot (f : Nat → Int) (a m b p : Nat) : Int := if p < a ∨ b ≤ p then f p else if p < a + (b - m) then f (p + (m - a)) else f (p - (b - m))

theorem rot_left (f : Nat → Int) (m i j : Nat) (h : j < i) (hi : i ≤ m) : rot (swp f (m - i) m j) (m - (i - j)) m (m + j) = rot f (m - i) m (m + j) := by
  funext p
  unfold rot swp
  repeat' split
  all_goals first | rfl | (exfalso; omega) | (congr 1; omega)

theorem rot_right (f : Nat → Int) (m i j : Nat) (h : i < j) (hi : i ≤ m) : rot (swp f (m - i) (m + j - i) i) (m - i) m (m + (j - i)) = rot f (m - i) m (m + j) := by
  funext p
  unfold rot swp
  repeat' split
  all_goals first | rfl | (exfalso; omega) | (congr 1; omega)

theorem rot_same (f : Nat → Int) (m i : Nat) (hi : i ≤ m) : swp f (m - i) m i = rot f (m - i) m (m + i) := by
  funext p
  unfold rot swp
  repeat' split
  all_goals first | rfl | (exfalso; omega) | (congr 1; omega)

set_option maxHeartbeats 1000000 in
theorem rotate_any (B n cap : Nat) (f : Nat → Int) (a m b : Nat) (cv : Value) (w : World) (hr : Row w B n f) (h1 : a < m) (h2 : m < b) (h3 : b ≤ n) (hn : n ≤ 1000) :
    Calls Try.prog 55 #[.slice (some ⟨B, 0, none⟩) n cap, .int .i64 a, .int .i64 m, .int .i64 b, cv] w fun e w' =>
      e = .returned (.tuple #[]) ∧ Row w' B n (rot f a m b) ∧ ExtBut B w w' := by
  go_enter Try.func55, Try.ntmps55
  go_wp2_with fail
  go_loopw [10, 11] (fun iv jv wr => ∃ i j : Nat, ∃ g : Nat → Int, iv = .int .i64 i ∧ jv = .int .i64 j ∧ 1 ≤ i ∧ 1 ≤ j ∧ i ≤ m ∧ m + j ≤ n ∧ Hid (rot g (m - i) m (m + j) = rot f a m b) ∧ Row wr B n g ∧ ExtBut B w wr) (fun i j _ => (intOf i).toNat + (intOf j).toNat)
  case atStart => exact ⟨m - a, b - m, f, by go_num, by go_num, by omega, by omega, by omega, by omega, by rw [show m - (m - a) = a from by omega, show m + (b - m) = b from by omega]; rfl, hr, ExtBut.refl _ _⟩
  case round =>
    obtain ⟨i, j, g, rfl, rfl, hi, hj, him, hjn, hg, hrow, hx⟩ := hrel
    have s1 : ((m : Int) - (i : Int)) = ((m - i : Nat) : Int) := by omega
    have HG := hg
    have HX := Lib.hid hx
    have HR := Lib.hid hrow
    clear hr hg hx hrow
    rcases Nat.lt_trichotomy i j with hlt | heq | hlt
    · have e1 : ((i : Int) != (j : Int)) = true := by rw [bne_iff_ne]; omega
      have s2 : ((m : Int) + (j : Int) - (i : Int)) = ((m + j - i : Nat) : Int) := by omega
      go_wp2_with fail
      refine (swapRange_any B n cap g _ _ i cv _ HR.out (by omega) (by omega) hn).mono ?_
      rintro e w1 ⟨rfl, hr1, hx1⟩
      have HR1 := Lib.hid hr1
      clear hr1
      go_wp2_with fail
      go_roundw
      case rel =>
        refine ⟨i, j - i, _, rfl, by go_num, hi, by omega, him, by omega, ?_, HR1.out, HX.out.trans hx1⟩
        rw [rot_right g m i j hlt him]; exact HG
      case measure => simp [intOf]; omega
    · subst heq
      have e1 : ((i : Int) != (i : Int)) = false := by simp
      go_wp2_with fail
      refine (swapRange_any B n cap g _ _ i cv _ HR.out (by omega) (by omega) hn).mono ?_
      rintro e w1 ⟨rfl, hr1, hx1⟩
      go_wp2_with fail
      go_end0
      refine ⟨rfl, ?_, HX.out.trans hx1⟩
      rw [← HG.out, ← rot_same g m i him]; exact hr1
    · have e1 : ((i : Int) != (j : Int)) = true := by rw [bne_iff_ne]; omega
      go_wp2_with fail
      refine (swapRange_any B n cap g _ _ j cv _ HR.out (by omega) (by omega) hn).mono ?_
      rintro e w1 ⟨rfl, hr1, hx1⟩
      have HR1 := Lib.hid hr1
      clear hr1
      go_wp2_with fail
      go_roundw
      case rel =>
        refine ⟨i - j, j, _, by go_num, rfl, by omega, hj, by omega, hjn, ?_, HR1.out, HX.out.trans hx1⟩
        rw [rot_left g m i j hlt him]; exact HG
      case measure => simp [intOf]; omega

end Go.Proofs.Ytleogddijlabdaa
