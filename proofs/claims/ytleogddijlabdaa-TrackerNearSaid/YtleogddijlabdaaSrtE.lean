/- Go's merge in place: one number on the right. -/
import Derived.Test.YtleogddijlabdaaSrtD
set_option linter.unusedSimpArgs false
set_option linter.unusedVariables false
namespace Go.Proofs.Ytleogddijlabdaa
open Go.RowKit Srt

def SrchR (w : World) (B n : Nat) (f : Nat → Int) (a m : Nat) (K : Int → Int) (iv jv : Value) (wr : World) : Prop :=
  ∃ i j : Nat, iv = .int .i64 i ∧ jv = .int .i64 j ∧ a ≤ i ∧ i ≤ j ∧ j ≤ m ∧ Hid (∀ p, a ≤ p → p < i → K (f p) ≤ K (f m)) ∧ Hid (∀ p, j ≤ p → p < m → K (f m) < K (f p)) ∧ SrchRel w wr B n f
def CarryR (w : World) (B n : Nat) (f : Nat → Int) (m j : Nat) (kv : Value) (wr : World) : Prop :=
  ∃ k : Nat, kv = .int .i64 k ∧ j ≤ k ∧ k ≤ m ∧ ∃ g, Row wr B n g ∧ Hid (g = shR f m k) ∧ ExtBut B w wr

set_option maxRecDepth 100000 in
set_option maxHeartbeats 2000000 in
theorem symMerge_right (B n cap : Nat) (f : Nat → Int) (a m b : Nat) (p1 p2 : Value) (V : Int → Prop) (K : Int → Int) (w : World) (hr : Row w B n f) (hm : a + 1 < m) (hm1 : m + 1 ≤ b) (hm2 : b ≤ m + 1) (h2 : b ≤ n) (hn : n ≤ 1000)
    (hh : Halves K f a m b) (hV : ∀ p, a ≤ p → p < b → V (f p)) (hc : CmpAt B w V K p1 p2) :
    Calls Try.prog 51 #[.slice (some ⟨B, 0, none⟩) n cap, .int .i64 a, .int .i64 m, .int .i64 b, .func (.func 29) #[] #[p1, p2]] w fun e w' =>
      e = .returned (.tuple #[]) ∧ SortedRow w w' B n f a b K := by
  have hh' : Halves K f a m (m + 1) := by rw [show m + 1 = b from by omega]; exact hh
  have HH := Lib.hid hh'
  have HV := Lib.hid hV
  have HC := Lib.hid hc
  clear hh hh' hV hc
  have t1 : ((b : Int) - (m : Int)) = 1 := by omega
  have t2 : (((m : Int) - (a : Int)) == 1) = false := by rw [beq_eq_false_iff_ne]; omega
  go_enter Try.func51, Try.ntmps51
  go_wp2_with fail
  go_loopw [14, 15] (fun iv jv wr => SrchR w B n f a m K iv jv wr) (fun i j _ => (intOf j).toNat - (intOf i).toNat)
  case atStart => exact ⟨a, m, rfl, rfl, by omega, by omega, by omega, fun q h3 h4 => by omega, fun q h3 h4 => by omega, hr, ExtBut.refl _ _⟩
  case round =>
    obtain ⟨i, j, rfl, rfl, h3, h4, h5, h6, h7, hrow, hx⟩ := hrel
    have HX := Lib.hid hx
    have HR := Lib.hid hrow
    clear hr hx hrow
    by_cases hlt : i < j
    · obtain ⟨h, hd⟩ : ∃ h : Nat, h = (i + j) / 2 := ⟨_, rfl⟩
      have hb1 : i ≤ h := by omega
      have hb2 : h < j := by omega
      have ed : ((i : Int) + (j : Int)) / 2 = (h : Int) := by omega
      clear hd
      have r1 := HR.out h (by omega)
      have r2 := HR.out m (by omega)
      have hcall : ∀ w', Ext wr w' → Calls Try.prog 29 #[.int .i64 (f m), .int .i64 (f h), p1, p2] w' fun e w'' => e = .returned (.int .i64 (cmpI (K (f m)) (K (f h)))) ∧ Ext w' w'' :=
        fun w' k => HC.out w' (HX.out.trans (ExtBut.of_ext k)) _ _ (HV.out m (by omega) (by omega)) (HV.out h (by omega) (by omega))
      have hneg := @cmpI_neg (K (f m)) (K (f h))
      generalize cmpI (K (f m)) (K (f h)) = c at *
      have k1 : ∀ w', Ext wr w' → w'.cell? ⟨B, h, none⟩ = some (.int .i64 (f h)) := fun w' q => q.cellAt r1.1
      have k2 : ∀ w', Ext wr w' → w'.cell? ⟨B, m, none⟩ = some (.int .i64 (f m)) := fun w' q => q.cellAt r2.1
      have kk := Ext.refl wr
      have i1 : (0 : Int) ≤ (h : Int) := by omega
      have i2 : (h : Int) < (n : Int) := by omega
      have i3 : (0 : Int) ≤ (m : Int) := by omega
      have i4 : (m : Int) < (n : Int) := by omega
      clear r1 r2
      by_cases hk : K (f m) < K (f h)
      · have hc0 : c < 0 := hneg.2 hk
        have hd : decide (c < 0) = true := by simpa using hc0
        have HK := Lib.hid hk
        clear hneg hk
        go_wp2_with fail
        go_region_held3 (fun w' => Ext wr w')
          ((first | assumption | ((repeat' (first | exact Ext.refl _ | assumption | (apply Ext.after; assumption) | (refine Ext.alloc ?_ _) | (refine Ext.drew ?_) | (refine Ext.drewN ?_ _) | (refine Ext.setCell ?_ ?_ _) | (simp; done) | (simp; omega) | omega)); done)))
          ((first | (go_at_call 29; refine (hcall _ (by assumption)).mono ?_; rintro e w2 ⟨rfl, hx2⟩)))
        have hxx : Ext wr w2 := by (repeat' (first | exact Ext.refl _ | assumption | (apply Ext.after; assumption) | (refine Ext.alloc ?_ _) | (refine Ext.drew ?_) | (refine Ext.drewN ?_ _) | (refine Ext.setCell ?_ ?_ _) | (simp; done) | (simp; omega) | omega))
        go_wp2_with fail
        go_roundw
        case rel =>
          unfold SrchR
          refine ⟨i, h, rfl, rfl, h3, hb1, by omega, h6, fun q q1 q2 => ?_, HR.out.ext hxx, HX.out.trans (ExtBut.of_ext hxx)⟩
          rcases HH.out.left.le (p := h) (q := q) (by omega) q1 (by omega) with e | e
          · rw [← e]; exact HK.out
          · have := HK.out; unfold Srt.LT at e; omega
        case measure => simp [intOf]; omega
      · have hc0 : 0 ≤ c := by omega
        have hd : decide (c < 0) = false := by simp; omega
        have hk' : K (f h) ≤ K (f m) := by omega
        have HK := Lib.hid hk'
        clear hneg hk hk'
        go_wp2_with fail
        go_region_held3 (fun w' => Ext wr w')
          ((first | assumption | ((repeat' (first | exact Ext.refl _ | assumption | (apply Ext.after; assumption) | (refine Ext.alloc ?_ _) | (refine Ext.drew ?_) | (refine Ext.drewN ?_ _) | (refine Ext.setCell ?_ ?_ _) | (simp; done) | (simp; omega) | omega)); done)))
          ((first | (go_at_call 29; refine (hcall _ (by assumption)).mono ?_; rintro e w2 ⟨rfl, hx2⟩)))
        have hxx : Ext wr w2 := by (repeat' (first | exact Ext.refl _ | assumption | (apply Ext.after; assumption) | (refine Ext.alloc ?_ _) | (refine Ext.drew ?_) | (refine Ext.drewN ?_ _) | (refine Ext.setCell ?_ ?_ _) | (simp; done) | (simp; omega) | omega))
        go_wp2_with fail
        go_roundw
        case rel =>
          unfold SrchR
          refine ⟨h + 1, j, by go_num, rfl, by omega, by omega, h5, fun q q1 q2 => ?_, h7, HR.out.ext hxx, HX.out.trans (ExtBut.of_ext hxx)⟩
          rcases HH.out.left.le (p := q) (q := h) q1 (by omega) (by omega) with e | e
          · rw [e]; exact HK.out
          · have := HK.out; unfold Srt.LT at e; omega
        case measure => simp [intOf]; omega
    · obtain rfl : j = i := by omega
      have hin : ∃ g, Row wr B n g ∧ Hid (g = shR f m m) ∧ ExtBut B w wr := ⟨f, HR.out, (shR_zero f m).symm, HX.out⟩
      clear HR HX
      go_wp2_with fail
      obtain ⟨wo, rfl⟩ : ∃ wo : World, wo = wr := ⟨_, rfl⟩
      go_loopw [17] (fun kv wr => CarryR w B n f m j kv wr) (fun k _ => (intOf k).toNat)
      case atStart => exact ⟨m, rfl, by omega, Nat.le_refl _, hin⟩
      case round =>
        obtain ⟨k, rfl, k1, k2, g, hrow, hg, hx⟩ := hrel
        clear hin
        have HX := Lib.hid hx
        have HR := Lib.hid hrow
        clear hx hrow
        by_cases hk : j < k
        · obtain ⟨q, rfl⟩ : ∃ q, k = q + 1 := ⟨k - 1, by omega⟩
          have c1 := (HR.out (q + 1) (by omega)).1
          have c2 := (HR.out q (by omega)).1
          have f1 := (HR.out (q + 1) (by omega)).2
          have f2 := (HR.out q (by omega)).2
          have hsw := Row.swap HR.out (i := q + 1) (j := q) (by omega) (by omega)
          have HS := Lib.hid hsw
          have i1 : (0 : Int) ≤ (q : Int) := by omega
          have i2 : (q : Int) < (n : Int) := by omega
          have i3 : (0 : Int) ≤ (q : Int) + 1 := by omega
          have i4 : (q : Int) + 1 < (n : Int) := by omega
          clear hsw
          go_wp2_with fail
          go_region
          go_wp2_with fail
          go_roundw
          case rel =>
            unfold CarryR
            exact ⟨q, by go_num, by omega, by omega, _, HS.out, by rw [hg.out]; exact shR_pred f m q k2, ((HX.out.setCell _ _).setCell _ _).drew⟩
          case measure => simp [intOf] <;> omega
        · go_wp2_with fail
          obtain rfl : k = j := by omega
          refine bodyPost_ret (v := .tuple #[]) (by simp [results, Try.results51, go_sem]) rfl ⟨rfl, g, HR.out, ?_⟩
          have hl := one_right HH.out h3 h5 (g := g) (fun q q1 q2 => by have := h6.out q q1 q2; omega) h7.out (fun p p1 p2 => by rw [hg.out]; unfold shR; rw [if_pos ⟨p1, p2⟩])
            (by rw [hg.out]; unfold shR; rw [if_neg (by omega), if_pos rfl]) (fun p p1 => by rw [hg.out]; unfold shR; rw [if_neg (by omega), if_neg (by omega)])
          obtain rfl : b = m + 1 := by omega
          exact ⟨hl.1, hl.2, HX.out⟩

end Go.Proofs.Ytleogddijlabdaa
