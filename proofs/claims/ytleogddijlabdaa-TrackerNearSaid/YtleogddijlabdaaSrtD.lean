/- Go's merge in place: one number on the left. -/
import Derived.Test.YtleogddijlabdaaSrtC
set_option linter.unusedSimpArgs false
set_option linter.unusedVariables false
namespace Go.Proofs.Ytleogddijlabdaa
open Go.RowKit Srt

def SrchRel (w wr : World) (B n : Nat) (f : Nat → Int) : Prop := Row wr B n f ∧ ExtBut B w wr

/-- The number of place a carried up to place k. -/
def shL (f : Nat → Int) (a k p : Nat) : Int := if a ≤ p ∧ p < k then f (p + 1) else if p = k then f a else f p
theorem shL_zero (f : Nat → Int) (a : Nat) : shL f a a = f := by
  funext p; unfold shL; repeat' split
  all_goals first | rfl | (exfalso; omega) | (congr 1; omega)
theorem shL_succ (f : Nat → Int) (a k : Nat) (h : a ≤ k) : ex (shL f a k) k (k + 1) = shL f a (k + 1) := by
  funext p; unfold ex shL; repeat' split
  all_goals first | rfl | (exfalso; omega) | (congr 1; omega)
/-- The number of place m carried down to place k. -/
def shR (f : Nat → Int) (m k p : Nat) : Int := if k < p ∧ p ≤ m then f (p - 1) else if p = k then f m else f p
theorem shR_zero (f : Nat → Int) (m : Nat) : shR f m m = f := by
  funext p; unfold shR; repeat' split
  all_goals first | rfl | (exfalso; omega) | (congr 1; omega)
theorem shR_pred (f : Nat → Int) (m k : Nat) (h : k + 1 ≤ m) : ex (shR f m (k + 1)) (k + 1) k = shR f m k := by
  funext p; unfold ex shR; repeat' split
  all_goals first | rfl | (exfalso; omega) | (congr 1; omega)

def SrchL (w : World) (B n : Nat) (f : Nat → Int) (a b : Nat) (K : Int → Int) (iv jv : Value) (wr : World) : Prop :=
  ∃ i j : Nat, iv = .int .i64 i ∧ jv = .int .i64 j ∧ a + 1 ≤ i ∧ i ≤ j ∧ j ≤ b ∧ Hid (∀ q, a + 1 ≤ q → q < i → K (f q) < K (f a)) ∧ Hid (∀ q, j ≤ q → q < b → K (f a) ≤ K (f q)) ∧ SrchRel w wr B n f
def CarryL (w : World) (B n : Nat) (f : Nat → Int) (a j : Nat) (kv : Value) (wr : World) : Prop :=
  ∃ k : Nat, kv = .int .i64 k ∧ a ≤ k ∧ k ≤ j - 1 ∧ ∃ g, Row wr B n g ∧ Hid (g = shL f a k) ∧ ExtBut B w wr

set_option maxRecDepth 100000 in
set_option maxHeartbeats 2000000 in
theorem symMerge_left (B n cap : Nat) (f : Nat → Int) (a m b : Nat) (p1 p2 : Value) (V : Int → Prop) (K : Int → Int) (w : World) (hr : Row w B n f) (hm1 : a + 1 ≤ m) (hm2 : m ≤ a + 1) (h1 : m < b) (h2 : b ≤ n) (hn : n ≤ 1000)
    (hh : Halves K f a m b) (hV : ∀ p, a ≤ p → p < b → V (f p)) (hc : CmpAt B w V K p1 p2) :
    Calls Try.prog 51 #[.slice (some ⟨B, 0, none⟩) n cap, .int .i64 a, .int .i64 m, .int .i64 b, .func (.func 29) #[] #[p1, p2]] w fun e w' =>
      e = .returned (.tuple #[]) ∧ SortedRow w w' B n f a b K := by
  have hh' : Halves K f a (a + 1) b := by rw [show a + 1 = m from by omega]; exact hh
  have HH := Lib.hid hh'
  have HV := Lib.hid hV
  have HC := Lib.hid hc
  clear hh hh' hV hc
  have t1 : ((m : Int) - (a : Int)) = 1 := by omega
  go_enter Try.func51, Try.ntmps51
  go_wp2_with fail
  go_loopw [10, 11] (fun iv jv wr => SrchL w B n f a b K iv jv wr) (fun i j _ => (intOf j).toNat - (intOf i).toNat)
  case atStart => exact ⟨m, b, rfl, rfl, by omega, by omega, by omega, fun q h3 h4 => by omega, fun q h3 h4 => by omega, hr, ExtBut.refl _ _⟩
  case round =>
    obtain ⟨i, j, rfl, rfl, h3, h4, h5, h6, h7, hrow, hx⟩ := hrel
    have HX := Lib.hid hx
    have HR := Lib.hid hrow
    clear hr hx hrow
    by_cases hlt : i < j
    · obtain ⟨h, hd⟩ : ∃ h : Nat, h = (i + j) / 2 := ⟨_, rfl⟩
      have hb1 : i ≤ h := by omega
      have hb2 : h < j := by omega
      have ed : ((i : Int) + (j : Int)) / 2 = (h : Int) := by omega
      clear hd
      have r1 := HR.out h (by omega)
      have r2 := HR.out a (by omega)
      have hcall : ∀ w', Ext wr w' → Calls Try.prog 29 #[.int .i64 (f h), .int .i64 (f a), p1, p2] w' fun e w'' => e = .returned (.int .i64 (cmpI (K (f h)) (K (f a)))) ∧ Ext w' w'' :=
        fun w' k => HC.out w' (HX.out.trans (ExtBut.of_ext k)) _ _ (HV.out h (by omega) (by omega)) (HV.out a (by omega) (by omega))
      have hneg := @cmpI_neg (K (f h)) (K (f a))
      generalize cmpI (K (f h)) (K (f a)) = c at *
      have k1 : ∀ w', Ext wr w' → w'.cell? ⟨B, h, none⟩ = some (.int .i64 (f h)) := fun w' q => q.cellAt r1.1
      have k2 : ∀ w', Ext wr w' → w'.cell? ⟨B, a, none⟩ = some (.int .i64 (f a)) := fun w' q => q.cellAt r2.1
      have kk := Ext.refl wr
      have i1 : (0 : Int) ≤ (h : Int) := by omega
      have i2 : (h : Int) < (n : Int) := by omega
      have i3 : (0 : Int) ≤ (a : Int) := by omega
      have i4 : (a : Int) < (n : Int) := by omega
      clear r1 r2
      by_cases hk : K (f h) < K (f a)
      · have hc0 : c < 0 := hneg.2 hk
        have HK := Lib.hid hk
        clear hneg hk
        go_wp2_with fail
        go_region_held3 (fun w' => Ext wr w')
          ((first | assumption | ((repeat' (first | exact Ext.refl _ | assumption | (apply Ext.after; assumption) | (refine Ext.alloc ?_ _) | (refine Ext.drew ?_) | (refine Ext.drewN ?_ _) | (refine Ext.setCell ?_ ?_ _) | (simp; done) | (simp; omega) | omega)); done)))
          ((first | (go_at_call 29; refine (hcall _ (by assumption)).mono ?_; rintro e w2 ⟨rfl, hx2⟩)))
        have hxx : Ext wr w2 := by (repeat' (first | exact Ext.refl _ | assumption | (apply Ext.after; assumption) | (refine Ext.alloc ?_ _) | (refine Ext.drew ?_) | (refine Ext.drewN ?_ _) | (refine Ext.setCell ?_ ?_ _) | (simp; done) | (simp; omega) | omega))
        go_wp2_with fail
        go_roundw
        case rel =>
          unfold SrchL
          refine ⟨h + 1, j, by go_num, rfl, by omega, by omega, h5, fun q q1 q2 => ?_, h7, HR.out.ext hxx, HX.out.trans (ExtBut.of_ext hxx)⟩
          rcases HH.out.right.le (p := q) (q := h) q1 (by omega) (by omega) with e | e
          · rw [e]; exact HK.out
          · have := HK.out; unfold Srt.LT at e; omega
        case measure => simp [intOf]; omega
      · have hc0 : 0 ≤ c := by omega
        have hk' : K (f a) ≤ K (f h) := by omega
        have HK := Lib.hid hk'
        clear hneg hk hk'
        go_wp2_with fail
        go_region_held3 (fun w' => Ext wr w')
          ((first | assumption | ((repeat' (first | exact Ext.refl _ | assumption | (apply Ext.after; assumption) | (refine Ext.alloc ?_ _) | (refine Ext.drew ?_) | (refine Ext.drewN ?_ _) | (refine Ext.setCell ?_ ?_ _) | (simp; done) | (simp; omega) | omega)); done)))
          ((first | (go_at_call 29; refine (hcall _ (by assumption)).mono ?_; rintro e w2 ⟨rfl, hx2⟩)))
        have hxx : Ext wr w2 := by (repeat' (first | exact Ext.refl _ | assumption | (apply Ext.after; assumption) | (refine Ext.alloc ?_ _) | (refine Ext.drew ?_) | (refine Ext.drewN ?_ _) | (refine Ext.setCell ?_ ?_ _) | (simp; done) | (simp; omega) | omega))
        go_wp2_with fail
        go_roundw
        case rel =>
          unfold SrchL
          refine ⟨i, h, rfl, rfl, h3, hb1, by omega, h6, fun q q1 q2 => ?_, HR.out.ext hxx, HX.out.trans (ExtBut.of_ext hxx)⟩
          rcases HH.out.right.le (p := h) (q := q) (by omega) q1 (by omega) with e | e
          · rw [← e]; exact HK.out
          · have := HK.out; unfold Srt.LT at e; omega
        case measure => simp [intOf]; omega
    · obtain rfl : j = i := by omega
      have hin : ∃ g, Row wr B n g ∧ Hid (g = shL f a a) ∧ ExtBut B w wr := ⟨f, HR.out, (shL_zero f a).symm, HX.out⟩
      clear HR HX
      go_wp2_with fail
      obtain ⟨wo, rfl⟩ : ∃ wo : World, wo = wr := ⟨_, rfl⟩
      go_loopw [13] (fun kv wr => CarryL w B n f a j kv wr) (fun k _ => n - (intOf k).toNat)
      case atStart => exact ⟨a, rfl, Nat.le_refl _, by omega, hin⟩
      case round =>
        obtain ⟨k, rfl, k1, k2, g, hrow, hg, hx⟩ := hrel
        clear hin
        have HX := Lib.hid hx
        have HR := Lib.hid hrow
        clear hx hrow
        have e1 : ((j : Int) - 1) = ((j - 1 : Nat) : Int) := by omega
        by_cases hk : k < j - 1
        · have c1 := (HR.out k (by omega)).1
          have c2 := (HR.out (k + 1) (by omega)).1
          have f1 := (HR.out k (by omega)).2
          have f2 := (HR.out (k + 1) (by omega)).2
          have hsw := Row.swap HR.out (i := k) (j := k + 1) (by omega) (by omega)
          have HS := Lib.hid hsw
          clear hsw
          go_wp2_with fail
          go_region
          go_wp2_with fail
          go_roundw
          case rel =>
            unfold CarryL
            exact ⟨k + 1, by go_num, by omega, by omega, _, HS.out, by rw [hg.out]; exact shL_succ f a k k1, ((HX.out.setCell _ _).setCell _ _).drew⟩
          case measure => simp [intOf]; omega
        · go_wp2_with fail
          obtain rfl : k = j - 1 := by omega
          refine bodyPost_ret (v := .tuple #[]) (by simp [results, Try.results51, go_sem]) rfl ⟨rfl, g, HR.out, ?_⟩
          have hl := one_left HH.out h3 h5 (g := g) h6.out (fun q q1 q2 => by have := h7.out q q1 q2; omega) (fun p p1 p2 => by rw [hg.out]; unfold shL; rw [if_pos ⟨p1, p2⟩])
            (by rw [hg.out]; unfold shL; rw [if_neg (by omega), if_pos rfl]) (fun p p1 => by rw [hg.out]; unfold shL; rw [if_neg (by omega), if_neg (by omega)])
          exact ⟨hl.1, hl.2, HX.out⟩

end Go.Proofs.Ytleogddijlabdaa
