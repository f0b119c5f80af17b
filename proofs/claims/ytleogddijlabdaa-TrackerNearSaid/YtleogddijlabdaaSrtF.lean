/- Go's merge in place: the search for the turn, the rotation, the two halves. -/
import Derived.Test.YtleogddijlabdaaSrtE
set_option linter.unusedSimpArgs false
set_option linter.unusedVariables false
namespace Go.Proofs.Ytleogddijlabdaa
open Go.RowKit Srt

def SrchG (w : World) (B n : Nat) (f : Nat → Int) (N s0 r0 : Nat) (K : Int → Int) (iv jv : Value) (wr : World) : Prop :=
  ∃ s r : Nat, iv = .int .i64 s ∧ jv = .int .i64 r ∧ s0 ≤ s ∧ s ≤ r ∧ r ≤ r0 ∧ Hid (s = s0 ∨ K (f (s - 1)) ≤ K (f (N - s))) ∧ Hid (r = r0 ∨ K (f (N - 1 - r)) < K (f r)) ∧ SrchRel w wr B n f

/-- What is known of the merge of every shorter segment. -/
def MergeIH (B n cap : Nat) (p1 p2 : Value) (V : Int → Prop) (K : Int → Int) (d : Nat) : Prop :=
  ∀ (f : Nat → Int) (a m b : Nat) (w : World), b - a < d → Row w B n f → a < m → m < b → b ≤ n → Halves K f a m b → (∀ p, a ≤ p → p < b → V (f p)) → CmpAt B w V K p1 p2 →
    Calls Try.prog 51 #[.slice (some ⟨B, 0, none⟩) n cap, .int .i64 a, .int .i64 m, .int .i64 b, .func (.func 29) #[] #[p1, p2]] w fun e w' =>
      e = .returned (.tuple #[]) ∧ SortedRow w w' B n f a b K

theorem merge_end {K : Int → Int} {B n : Nat} {f g1 g2 : Nat → Int} {a m b mid s : Nat} {w w3 : World} (h : Halves K f a m b) (c : Cut K f a m b (mid + m) s) (hs : s ≤ mid) (h1 : a ≤ mid) (h2 : mid ≤ b)
    (x1 : Same (rot f s m (mid + m - s)) g1 a mid) (y1 : Sorted K g1 a mid) (x2 : Same g1 g2 mid b) (y2 : Sorted K g2 mid b) (hr : Row w3 B n g2) (hx : ExtBut B w w3) : SortedRow w w3 B n f a b K :=
  have r := merge_done h c hs h1 h2 x1 y1 x2 y2
  ⟨g2, hr, r.1, r.2, hx⟩

theorem V_rot {V : Int → Prop} {f : Nat → Int} {a b s m e : Nat} (hV : ∀ p, a ≤ p → p < b → V (f p)) (h1 : a ≤ s) (h2 : s ≤ m) (h3 : m ≤ e) (h4 : e ≤ b) : ∀ p, a ≤ p → p < b → V (rot f s m e p) := fun p q1 q2 => by
  obtain ⟨r, r1, r2, r3⟩ := ((rot_same' f h2 h3).mono h1 h4).of p q1 q2
  rw [r3]; exact hV r r1 r2

set_option maxRecDepth 100000 in
set_option maxHeartbeats 4000000 in
theorem symMerge_gen_hi (B n cap : Nat) (f : Nat → Int) (a m b mid : Nat) (p1 p2 : Value) (V : Int → Prop) (K : Int → Int) (w : World) (hr : Row w B n f) (hm : a + 1 < m) (hm1 : m + 1 < b) (h2 : b ≤ n) (hn : n ≤ 1000)
    (hmd1 : 2 * mid ≤ a + b) (hmd2 : a + b ≤ 2 * mid + 1) (hmm : mid < m)
    (hh : Halves K f a m b) (hV : ∀ p, a ≤ p → p < b → V (f p)) (hc : CmpAt B w V K p1 p2) (ih : MergeIH B n cap p1 p2 V K (b - a)) :
    Calls Try.prog 51 #[.slice (some ⟨B, 0, none⟩) n cap, .int .i64 a, .int .i64 m, .int .i64 b, .func (.func 29) #[] #[p1, p2]] w fun e w' =>
      e = .returned (.tuple #[]) ∧ SortedRow w w' B n f a b K := by
  have HH := Lib.hid hh
  have HV := Lib.hid hV
  have HC := Lib.hid hc
  clear hh hV hc
  have t1 : (((b : Int) - (m : Int)) == 1) = false := by rw [beq_eq_false_iff_ne]; omega
  have t2 : (((m : Int) - (a : Int)) == 1) = false := by rw [beq_eq_false_iff_ne]; omega
  have em : ((a : Int) + (b : Int)) / 2 = (mid : Int) := by omega
  have hmb : decide (mid < m) = true := by simp; omega
  obtain ⟨s0, hs0⟩ : ∃ s0 : Nat, s0 = mid + m - b := ⟨_, rfl⟩
  have es : (mid : Int) + (m : Int) - (b : Int) = (s0 : Int) := by omega
  have hs1 : s0 ≤ mid + m - b := by omega
  have hs2 : mid + m - b ≤ s0 := by omega
  clear hs0
  go_enter Try.func51, Try.ntmps51
  go_wp2_with fail
  go_loopw [20, 21] (fun iv jv wr => SrchG w B n f (mid + m) s0 mid K iv jv wr) (fun i j _ => (intOf j).toNat - (intOf i).toNat)
  case atStart => exact ⟨s0, mid, rfl, rfl, by omega, by omega, by omega, Or.inl rfl, Or.inl rfl, hr, ExtBut.refl _ _⟩
  case round =>
    obtain ⟨s, r, rfl, rfl, h3, h4, h5, h6, h7, hrow, hx⟩ := hrel
    have HX := Lib.hid hx
    have HR := Lib.hid hrow
    clear hr hx hrow
    by_cases hlt : s < r
    · obtain ⟨c, hd⟩ : ∃ c : Nat, c = (s + r) / 2 := ⟨_, rfl⟩
      have hb1 : s ≤ c := by omega
      have hb2 : c < r := by omega
      have ed : ((s : Int) + (r : Int)) / 2 = (c : Int) := by omega
      clear hd
      obtain ⟨q, hq⟩ : ∃ q : Nat, q = mid + m - 1 - c := ⟨_, rfl⟩
      have hq1 : q + 1 + c ≤ mid + m := by omega
      have hq2 : mid + m ≤ q + 1 + c := by omega
      have eq : (mid : Int) + (m : Int) - 1 - (c : Int) = (q : Int) := by omega
      have ew : IntKind.i64.wrap ((mid : Int) + (m : Int) - 1 - (c : Int)) = (q : Int) := by rw [IntWalk.i64_in _ (by omega), eq]
      have ew2 : IntKind.i64.wrap (q : Int) = (q : Int) := IntWalk.i64_in _ (by omega)
      clear hq
      have r1 := HR.out c (by omega)
      have r2 := HR.out q (by omega)
      have hcall : ∀ w', Ext wr w' → Calls Try.prog 29 #[.int .i64 (f q), .int .i64 (f c), p1, p2] w' fun e w'' => e = .returned (.int .i64 (cmpI (K (f q)) (K (f c)))) ∧ Ext w' w'' :=
        fun w' k => HC.out w' (HX.out.trans (ExtBut.of_ext k)) _ _ (HV.out q (by omega) (by omega)) (HV.out c (by omega) (by omega))
      have hneg := @cmpI_neg (K (f q)) (K (f c))
      generalize cmpI (K (f q)) (K (f c)) = v at *
      have k1 : ∀ w', Ext wr w' → w'.cell? ⟨B, c, none⟩ = some (.int .i64 (f c)) := fun w' q => q.cellAt r1.1
      have k2 : ∀ w', Ext wr w' → w'.cell? ⟨B, q, none⟩ = some (.int .i64 (f q)) := fun w' k => k.cellAt r2.1
      have kk := Ext.refl wr
      have i1 : (0 : Int) ≤ (c : Int) := by omega
      have i2 : (c : Int) < (n : Int) := by omega
      have i3 : (0 : Int) ≤ (q : Int) := by omega
      have i4 : (q : Int) < (n : Int) := by omega
      clear r1 r2
      by_cases hk : K (f q) < K (f c)
      · have hc0 : v < 0 := hneg.2 hk
        have hd : decide (v < 0) = true := by simpa using hc0
        have HK := Lib.hid hk
        clear hneg hk
        go_wp2_with fail
        go_region_held3 (fun w' => Ext wr w')
          ((first | assumption | ((repeat' (first | exact Ext.refl _ | assumption | (apply Ext.after; assumption) | (refine Ext.alloc ?_ _) | (refine Ext.drew ?_) | (refine Ext.drewN ?_ _) | (refine Ext.setCell ?_ ?_ _) | (simp; done) | (simp; omega) | omega)); done)))
          ((first | (go_at_call 29; refine (hcall _ (by assumption)).mono ?_; rintro e w2 ⟨rfl, hx2⟩)))
        have hxx : Ext wr w2 := by (repeat' (first | exact Ext.refl _ | assumption | (apply Ext.after; assumption) | (refine Ext.alloc ?_ _) | (refine Ext.drew ?_) | (refine Ext.drewN ?_ _) | (refine Ext.setCell ?_ ?_ _) | (simp; done) | (simp; omega) | omega))
        go_wp2_with fail
        go_roundw
        case rel =>
          unfold SrchG
          exact ⟨s, c, rfl, rfl, h3, hb1, by omega, h6, Or.inr (by rw [show mid + m - 1 - c = q from by omega]; exact HK.out), HR.out.ext hxx, HX.out.trans (ExtBut.of_ext hxx)⟩
        case measure => simp [intOf]; omega
      · have hc0 : 0 ≤ v := by omega
        have hd : decide (v < 0) = false := by simp; omega
        have hk' : K (f c) ≤ K (f q) := by omega
        have HK := Lib.hid hk'
        clear hneg hk hk'
        go_wp2_with fail
        go_region_held3 (fun w' => Ext wr w')
          ((first | assumption | ((repeat' (first | exact Ext.refl _ | assumption | (apply Ext.after; assumption) | (refine Ext.alloc ?_ _) | (refine Ext.drew ?_) | (refine Ext.drewN ?_ _) | (refine Ext.setCell ?_ ?_ _) | (simp; done) | (simp; omega) | omega)); done)))
          ((first | (go_at_call 29; refine (hcall _ (by assumption)).mono ?_; rintro e w2 ⟨rfl, hx2⟩)))
        have hxx : Ext wr w2 := by (repeat' (first | exact Ext.refl _ | assumption | (apply Ext.after; assumption) | (refine Ext.alloc ?_ _) | (refine Ext.drew ?_) | (refine Ext.drewN ?_ _) | (refine Ext.setCell ?_ ?_ _) | (simp; done) | (simp; omega) | omega))
        go_wp2_with fail
        go_roundw
        case rel =>
          unfold SrchG
          exact ⟨c + 1, r, by go_num, rfl, by omega, by omega, h5, Or.inr (by rw [show mid + m - (c + 1) = q from by omega]; exact HK.out), h7, HR.out.ext hxx, HX.out.trans (ExtBut.of_ext hxx)⟩
        case measure => simp [intOf]; omega
    · obtain rfl : r = s := by omega
      have hcut : Cut K f a m b (mid + m) r := by
        refine Cut.mk' HH.out (by omega) (by omega) (by omega) (by omega) (by omega) ?_ ?_
        · rcases h6.out with e | e
          · right; left; omega
          · right; right; omega
        · rcases h7.out with e | e
          · right; left; omega
          · right; right; exact e
      have HCU := Lib.hid hcut
      have hsm : r ≤ mid := by omega
      have hsm2 : r ≤ m := by omega
      have hsa : a ≤ r := by omega
      have hse : m ≤ mid + m - r := by omega
      have hseb : mid + m - r ≤ b := by omega
      obtain ⟨E, hE⟩ : ∃ E : Nat, E = mid + m - r := ⟨_, rfl⟩
      have hE1 : E + r ≤ mid + m := by omega
      have hE2 : mid + m ≤ E + r := by omega
      have eE : (mid : Int) + (m : Int) - (r : Int) = (E : Int) := by omega
      have HE := Lib.hid hE
      have hVr := V_rot (e := E) HV.out hsa hsm2 (by omega) (by omega)
      have HVr := Lib.hid hVr
      have HL : Hid (Halves K (rot f r m E) a r mid) := by rw [hE]; exact low_halves HH.out hcut
      have HU : Hid (Halves K (rot f r m E) mid E b) := by rw [hE]; exact high_halves HH.out hcut
      clear hcut h6 h7 hE hVr
      by_cases hR : r < m ∧ m < E
      · obtain ⟨hRa, hRb⟩ := hR
        by_cases hL : a < r ∧ r < mid
        · obtain ⟨hLa, hLb⟩ := hL
          by_cases hH : mid < E ∧ E < b
          · obtain ⟨hHa, hHb⟩ := hH
            go_wp2_with fail
            all_goals
              refine (rotate_any B n cap f r m E _ _ HR.out hRa hRb (by omega) hn).mono ?_
              rintro e w1 ⟨rfl, hr1, hx1⟩
              have HR1 := Lib.hid hr1
              have HX1 : Hid (ExtBut B w w1) := HX.out.trans hx1
              clear hr1 hx1
              go_wp2_with fail
              all_goals
                refine (ih (rot f r m E) a r mid _ (by omega) HR1.out hLa hLb (by omega) HL.out (fun p q1 q2 => HVr.out p q1 (by omega)) (HC.out.mono HX1.out)).mono ?_
                rintro e w2 ⟨rfl, hr2⟩
                obtain ⟨g1, hr2, hs2, ho2, hx2⟩ := hr2
                have HR2 := Lib.hid hr2
                have HS2 := Lib.hid hs2
                have HO2 := Lib.hid ho2
                have HX2 : Hid (ExtBut B w w2) := HX1.out.trans hx2
                clear hr2 hs2 ho2 hx2
                go_wp2_with fail
                all_goals
                  refine (ih g1 mid E b _ (by omega) HR2.out hHa hHb (by omega) (HU.out.congr (by omega) (by omega) fun p q1 q2 => HS2.out.out p (by omega)) (fun p q1 q2 => by rw [HS2.out.out p (by omega)]; exact HVr.out p (by omega) q2) (HC.out.mono HX2.out)).mono ?_
                  rintro e w3 ⟨rfl, hr3⟩
                  obtain ⟨g2, hr3, hs3, ho3, hx3⟩ := hr3
                  have HR3 := Lib.hid hr3
                  have HS3 := Lib.hid hs3
                  have HO3 := Lib.hid ho3
                  have HX3 : Hid (ExtBut B w w3) := HX2.out.trans hx3
                  clear hr3 hs3 ho3 hx3
                  go_wp2_with fail
                  all_goals
                    go_end0
                    refine ⟨rfl, ?_⟩
                    exact merge_end HH.out HCU.out hsm (by omega) (by omega) (by rw [← HE.out]; exact HS2.out) HO2.out HS3.out HO3.out HR3.out HX3.out
          · have hHx : mid = E ∨ E = b := by omega
            have HHx := Lib.hid hHx
            clear hHx
            go_wp2_with fail
            all_goals
              refine (rotate_any B n cap f r m E _ _ HR.out hRa hRb (by omega) hn).mono ?_
              rintro e w1 ⟨rfl, hr1, hx1⟩
              have HR1 := Lib.hid hr1
              have HX1 : Hid (ExtBut B w w1) := HX.out.trans hx1
              clear hr1 hx1
              go_wp2_with fail
              all_goals
                refine (ih (rot f r m E) a r mid _ (by omega) HR1.out hLa hLb (by omega) HL.out (fun p q1 q2 => HVr.out p q1 (by omega)) (HC.out.mono HX1.out)).mono ?_
                rintro e w2 ⟨rfl, hr2⟩
                obtain ⟨g1, hr2, hs2, ho2, hx2⟩ := hr2
                have HR2 := Lib.hid hr2
                have HS2 := Lib.hid hs2
                have HO2 := Lib.hid ho2
                have HX2 : Hid (ExtBut B w w2) := HX1.out.trans hx2
                clear hr2 hs2 ho2 hx2
                go_wp2_with fail
                all_goals
                  go_end0
                  refine ⟨rfl, ?_⟩
                  exact merge_end HH.out HCU.out hsm (by omega) (by omega) (by rw [← HE.out]; exact HS2.out) HO2.out (Same.refl _ _ _) ((HU.out.congr (by omega) (by omega) fun p q1 q2 => HS2.out.out p (by omega)).sorted HHx.out) HR2.out HX2.out
        · have hLx : a = r ∨ r = mid := by omega
          have HLx := Lib.hid hLx
          clear hLx
          by_cases hH : mid < E ∧ E < b
          · obtain ⟨hHa, hHb⟩ := hH
            go_wp2_with fail
            all_goals
              refine (rotate_any B n cap f r m E _ _ HR.out hRa hRb (by omega) hn).mono ?_
              rintro e w1 ⟨rfl, hr1, hx1⟩
              have HR1 := Lib.hid hr1
              have HX1 : Hid (ExtBut B w w1) := HX.out.trans hx1
              clear hr1 hx1
              obtain ⟨g1, HS2, HO2, HR2, HX2⟩ : ∃ g1, Hid (Same (rot f r m E) g1 a mid) ∧ Hid (Sorted K g1 a mid) ∧ Hid (Row w1 B n g1) ∧ Hid (ExtBut B w w1) := ⟨_, Same.refl _ _ _, HL.out.sorted HLx.out, HR1.out, HX1.out⟩
              go_wp2_with fail
              all_goals
                refine (ih g1 mid E b _ (by omega) HR2.out hHa hHb (by omega) (HU.out.congr (by omega) (by omega) fun p q1 q2 => HS2.out.out p (by omega)) (fun p q1 q2 => by rw [HS2.out.out p (by omega)]; exact HVr.out p (by omega) q2) (HC.out.mono HX2.out)).mono ?_
                rintro e w3 ⟨rfl, hr3⟩
                obtain ⟨g2, hr3, hs3, ho3, hx3⟩ := hr3
                have HR3 := Lib.hid hr3
                have HS3 := Lib.hid hs3
                have HO3 := Lib.hid ho3
                have HX3 : Hid (ExtBut B w w3) := HX2.out.trans hx3
                clear hr3 hs3 ho3 hx3
                go_wp2_with fail
                all_goals
                  go_end0
                  refine ⟨rfl, ?_⟩
                  exact merge_end HH.out HCU.out hsm (by omega) (by omega) (by rw [← HE.out]; exact HS2.out) HO2.out HS3.out HO3.out HR3.out HX3.out
          · have hHx : mid = E ∨ E = b := by omega
            have HHx := Lib.hid hHx
            clear hHx
            go_wp2_with fail
            all_goals
              refine (rotate_any B n cap f r m E _ _ HR.out hRa hRb (by omega) hn).mono ?_
              rintro e w1 ⟨rfl, hr1, hx1⟩
              have HR1 := Lib.hid hr1
              have HX1 : Hid (ExtBut B w w1) := HX.out.trans hx1
              clear hr1 hx1
              obtain ⟨g1, HS2, HO2, HR2, HX2⟩ : ∃ g1, Hid (Same (rot f r m E) g1 a mid) ∧ Hid (Sorted K g1 a mid) ∧ Hid (Row w1 B n g1) ∧ Hid (ExtBut B w w1) := ⟨_, Same.refl _ _ _, HL.out.sorted HLx.out, HR1.out, HX1.out⟩
              go_wp2_with fail
              all_goals
                go_end0
                refine ⟨rfl, ?_⟩
                exact merge_end HH.out HCU.out hsm (by omega) (by omega) (by rw [← HE.out]; exact HS2.out) HO2.out (Same.refl _ _ _) ((HU.out.congr (by omega) (by omega) fun p q1 q2 => HS2.out.out p (by omega)).sorted HHx.out) HR2.out HX2.out
      · have hR0 : ¬ (r < m ∧ m < E) := hR
        have hRx : r = m ∨ m = E := by omega
        have HRx := Lib.hid hRx
        clear hR hRx
        by_cases hL : a < r ∧ r < mid
        · obtain ⟨hLa, hLb⟩ := hL
          by_cases hH : mid < E ∧ E < b
          · obtain ⟨hHa, hHb⟩ := hH
            have HR1 : Hid (Row wr B n (rot f r m E)) := by rw [rot_id f hsm2 (by omega) HRx.out]; exact HR.out
            have HX1 : Hid (ExtBut B w wr) := HX.out
            go_wp2_with fail
            all_goals
              refine (ih (rot f r m E) a r mid _ (by omega) HR1.out hLa hLb (by omega) HL.out (fun p q1 q2 => HVr.out p q1 (by omega)) (HC.out.mono HX1.out)).mono ?_
              rintro e w2 ⟨rfl, hr2⟩
              obtain ⟨g1, hr2, hs2, ho2, hx2⟩ := hr2
              have HR2 := Lib.hid hr2
              have HS2 := Lib.hid hs2
              have HO2 := Lib.hid ho2
              have HX2 : Hid (ExtBut B w w2) := HX1.out.trans hx2
              clear hr2 hs2 ho2 hx2
              go_wp2_with fail
              all_goals
                refine (ih g1 mid E b _ (by omega) HR2.out hHa hHb (by omega) (HU.out.congr (by omega) (by omega) fun p q1 q2 => HS2.out.out p (by omega)) (fun p q1 q2 => by rw [HS2.out.out p (by omega)]; exact HVr.out p (by omega) q2) (HC.out.mono HX2.out)).mono ?_
                rintro e w3 ⟨rfl, hr3⟩
                obtain ⟨g2, hr3, hs3, ho3, hx3⟩ := hr3
                have HR3 := Lib.hid hr3
                have HS3 := Lib.hid hs3
                have HO3 := Lib.hid ho3
                have HX3 : Hid (ExtBut B w w3) := HX2.out.trans hx3
                clear hr3 hs3 ho3 hx3
                go_wp2_with fail
                all_goals
                  go_end0
                  refine ⟨rfl, ?_⟩
                  exact merge_end HH.out HCU.out hsm (by omega) (by omega) (by rw [← HE.out]; exact HS2.out) HO2.out HS3.out HO3.out HR3.out HX3.out
          · have hHx : mid = E ∨ E = b := by omega
            have HHx := Lib.hid hHx
            clear hHx
            have HR1 : Hid (Row wr B n (rot f r m E)) := by rw [rot_id f hsm2 (by omega) HRx.out]; exact HR.out
            have HX1 : Hid (ExtBut B w wr) := HX.out
            go_wp2_with fail
            all_goals
              refine (ih (rot f r m E) a r mid _ (by omega) HR1.out hLa hLb (by omega) HL.out (fun p q1 q2 => HVr.out p q1 (by omega)) (HC.out.mono HX1.out)).mono ?_
              rintro e w2 ⟨rfl, hr2⟩
              obtain ⟨g1, hr2, hs2, ho2, hx2⟩ := hr2
              have HR2 := Lib.hid hr2
              have HS2 := Lib.hid hs2
              have HO2 := Lib.hid ho2
              have HX2 : Hid (ExtBut B w w2) := HX1.out.trans hx2
              clear hr2 hs2 ho2 hx2
              go_wp2_with fail
              all_goals
                go_end0
                refine ⟨rfl, ?_⟩
                exact merge_end HH.out HCU.out hsm (by omega) (by omega) (by rw [← HE.out]; exact HS2.out) HO2.out (Same.refl _ _ _) ((HU.out.congr (by omega) (by omega) fun p q1 q2 => HS2.out.out p (by omega)).sorted HHx.out) HR2.out HX2.out
        · have hLx : a = r ∨ r = mid := by omega
          have HLx := Lib.hid hLx
          clear hLx
          by_cases hH : mid < E ∧ E < b
          · obtain ⟨hHa, hHb⟩ := hH
            have HR1 : Hid (Row wr B n (rot f r m E)) := by rw [rot_id f hsm2 (by omega) HRx.out]; exact HR.out
            have HX1 : Hid (ExtBut B w wr) := HX.out
            obtain ⟨g1, HS2, HO2, HR2, HX2⟩ : ∃ g1, Hid (Same (rot f r m E) g1 a mid) ∧ Hid (Sorted K g1 a mid) ∧ Hid (Row wr B n g1) ∧ Hid (ExtBut B w wr) := ⟨_, Same.refl _ _ _, HL.out.sorted HLx.out, HR1.out, HX1.out⟩
            go_wp2_with fail
            all_goals
              refine (ih g1 mid E b _ (by omega) HR2.out hHa hHb (by omega) (HU.out.congr (by omega) (by omega) fun p q1 q2 => HS2.out.out p (by omega)) (fun p q1 q2 => by rw [HS2.out.out p (by omega)]; exact HVr.out p (by omega) q2) (HC.out.mono HX2.out)).mono ?_
              rintro e w3 ⟨rfl, hr3⟩
              obtain ⟨g2, hr3, hs3, ho3, hx3⟩ := hr3
              have HR3 := Lib.hid hr3
              have HS3 := Lib.hid hs3
              have HO3 := Lib.hid ho3
              have HX3 : Hid (ExtBut B w w3) := HX2.out.trans hx3
              clear hr3 hs3 ho3 hx3
              go_wp2_with fail
              all_goals
                go_end0
                refine ⟨rfl, ?_⟩
                exact merge_end HH.out HCU.out hsm (by omega) (by omega) (by rw [← HE.out]; exact HS2.out) HO2.out HS3.out HO3.out HR3.out HX3.out
          · have hHx : mid = E ∨ E = b := by omega
            have HHx := Lib.hid hHx
            clear hHx
            have HR1 : Hid (Row wr B n (rot f r m E)) := by rw [rot_id f hsm2 (by omega) HRx.out]; exact HR.out
            have HX1 : Hid (ExtBut B w wr) := HX.out
            obtain ⟨g1, HS2, HO2, HR2, HX2⟩ : ∃ g1, Hid (Same (rot f r m E) g1 a mid) ∧ Hid (Sorted K g1 a mid) ∧ Hid (Row wr B n g1) ∧ Hid (ExtBut B w wr) := ⟨_, Same.refl _ _ _, HL.out.sorted HLx.out, HR1.out, HX1.out⟩
            go_wp2_with fail
            all_goals
              go_end0
              refine ⟨rfl, ?_⟩
              exact merge_end HH.out HCU.out hsm (by omega) (by omega) (by rw [← HE.out]; exact HS2.out) HO2.out (Same.refl _ _ _) ((HU.out.congr (by omega) (by omega) fun p q1 q2 => HS2.out.out p (by omega)).sorted HHx.out) HR2.out HX2.out

set_option maxRecDepth 100000 in
set_option maxHeartbeats 4000000 in
theorem symMerge_gen_lo (B n cap : Nat) (f : Nat → Int) (a m b mid : Nat) (p1 p2 : Value) (V : Int → Prop) (K : Int → Int) (w : World) (hr : Row w B n f) (hm : a + 1 < m) (hm1 : m + 1 < b) (h2 : b ≤ n) (hn : n ≤ 1000)
    (hmd1 : 2 * mid ≤ a + b) (hmd2 : a + b ≤ 2 * mid + 1) (hmm : m ≤ mid)
    (hh : Halves K f a m b) (hV : ∀ p, a ≤ p → p < b → V (f p)) (hc : CmpAt B w V K p1 p2) (ih : MergeIH B n cap p1 p2 V K (b - a)) :
    Calls Try.prog 51 #[.slice (some ⟨B, 0, none⟩) n cap, .int .i64 a, .int .i64 m, .int .i64 b, .func (.func 29) #[] #[p1, p2]] w fun e w' =>
      e = .returned (.tuple #[]) ∧ SortedRow w w' B n f a b K := by
  have HH := Lib.hid hh
  have HV := Lib.hid hV
  have HC := Lib.hid hc
  clear hh hV hc
  have t1 : (((b : Int) - (m : Int)) == 1) = false := by rw [beq_eq_false_iff_ne]; omega
  have t2 : (((m : Int) - (a : Int)) == 1) = false := by rw [beq_eq_false_iff_ne]; omega
  have em : ((a : Int) + (b : Int)) / 2 = (mid : Int) := by omega
  have hmb : decide (mid < m) = false := by simp; omega
  go_enter Try.func51, Try.ntmps51
  go_wp2_with fail
  go_loopw [20, 21] (fun iv jv wr => SrchG w B n f (mid + m) a m K iv jv wr) (fun i j _ => (intOf j).toNat - (intOf i).toNat)
  case atStart => exact ⟨a, m, rfl, rfl, by omega, by omega, by omega, Or.inl rfl, Or.inl rfl, hr, ExtBut.refl _ _⟩
  case round =>
    obtain ⟨s, r, rfl, rfl, h3, h4, h5, h6, h7, hrow, hx⟩ := hrel
    have HX := Lib.hid hx
    have HR := Lib.hid hrow
    clear hr hx hrow
    by_cases hlt : s < r
    · obtain ⟨c, hd⟩ : ∃ c : Nat, c = (s + r) / 2 := ⟨_, rfl⟩
      have hb1 : s ≤ c := by omega
      have hb2 : c < r := by omega
      have ed : ((s : Int) + (r : Int)) / 2 = (c : Int) := by omega
      clear hd
      obtain ⟨q, hq⟩ : ∃ q : Nat, q = mid + m - 1 - c := ⟨_, rfl⟩
      have hq1 : q + 1 + c ≤ mid + m := by omega
      have hq2 : mid + m ≤ q + 1 + c := by omega
      have eq : (mid : Int) + (m : Int) - 1 - (c : Int) = (q : Int) := by omega
      have ew : IntKind.i64.wrap ((mid : Int) + (m : Int) - 1 - (c : Int)) = (q : Int) := by rw [IntWalk.i64_in _ (by omega), eq]
      have ew2 : IntKind.i64.wrap (q : Int) = (q : Int) := IntWalk.i64_in _ (by omega)
      clear hq
      have r1 := HR.out c (by omega)
      have r2 := HR.out q (by omega)
      have hcall : ∀ w', Ext wr w' → Calls Try.prog 29 #[.int .i64 (f q), .int .i64 (f c), p1, p2] w' fun e w'' => e = .returned (.int .i64 (cmpI (K (f q)) (K (f c)))) ∧ Ext w' w'' :=
        fun w' k => HC.out w' (HX.out.trans (ExtBut.of_ext k)) _ _ (HV.out q (by omega) (by omega)) (HV.out c (by omega) (by omega))
      have hneg := @cmpI_neg (K (f q)) (K (f c))
      generalize cmpI (K (f q)) (K (f c)) = v at *
      have k1 : ∀ w', Ext wr w' → w'.cell? ⟨B, c, none⟩ = some (.int .i64 (f c)) := fun w' q => q.cellAt r1.1
      have k2 : ∀ w', Ext wr w' → w'.cell? ⟨B, q, none⟩ = some (.int .i64 (f q)) := fun w' k => k.cellAt r2.1
      have kk := Ext.refl wr
      have i1 : (0 : Int) ≤ (c : Int) := by omega
      have i2 : (c : Int) < (n : Int) := by omega
      have i3 : (0 : Int) ≤ (q : Int) := by omega
      have i4 : (q : Int) < (n : Int) := by omega
      clear r1 r2
      by_cases hk : K (f q) < K (f c)
      · have hc0 : v < 0 := hneg.2 hk
        have hd : decide (v < 0) = true := by simpa using hc0
        have HK := Lib.hid hk
        clear hneg hk
        go_wp2_with fail
        go_region_held3 (fun w' => Ext wr w')
          ((first | assumption | ((repeat' (first | exact Ext.refl _ | assumption | (apply Ext.after; assumption) | (refine Ext.alloc ?_ _) | (refine Ext.drew ?_) | (refine Ext.drewN ?_ _) | (refine Ext.setCell ?_ ?_ _) | (simp; done) | (simp; omega) | omega)); done)))
          ((first | (go_at_call 29; refine (hcall _ (by assumption)).mono ?_; rintro e w2 ⟨rfl, hx2⟩)))
        have hxx : Ext wr w2 := by (repeat' (first | exact Ext.refl _ | assumption | (apply Ext.after; assumption) | (refine Ext.alloc ?_ _) | (refine Ext.drew ?_) | (refine Ext.drewN ?_ _) | (refine Ext.setCell ?_ ?_ _) | (simp; done) | (simp; omega) | omega))
        go_wp2_with fail
        go_roundw
        case rel =>
          unfold SrchG
          exact ⟨s, c, rfl, rfl, h3, hb1, by omega, h6, Or.inr (by rw [show mid + m - 1 - c = q from by omega]; exact HK.out), HR.out.ext hxx, HX.out.trans (ExtBut.of_ext hxx)⟩
        case measure => simp [intOf]; omega
      · have hc0 : 0 ≤ v := by omega
        have hd : decide (v < 0) = false := by simp; omega
        have hk' : K (f c) ≤ K (f q) := by omega
        have HK := Lib.hid hk'
        clear hneg hk hk'
        go_wp2_with fail
        go_region_held3 (fun w' => Ext wr w')
          ((first | assumption | ((repeat' (first | exact Ext.refl _ | assumption | (apply Ext.after; assumption) | (refine Ext.alloc ?_ _) | (refine Ext.drew ?_) | (refine Ext.drewN ?_ _) | (refine Ext.setCell ?_ ?_ _) | (simp; done) | (simp; omega) | omega)); done)))
          ((first | (go_at_call 29; refine (hcall _ (by assumption)).mono ?_; rintro e w2 ⟨rfl, hx2⟩)))
        have hxx : Ext wr w2 := by (repeat' (first | exact Ext.refl _ | assumption | (apply Ext.after; assumption) | (refine Ext.alloc ?_ _) | (refine Ext.drew ?_) | (refine Ext.drewN ?_ _) | (refine Ext.setCell ?_ ?_ _) | (simp; done) | (simp; omega) | omega))
        go_wp2_with fail
        go_roundw
        case rel =>
          unfold SrchG
          exact ⟨c + 1, r, by go_num, rfl, by omega, by omega, h5, Or.inr (by rw [show mid + m - (c + 1) = q from by omega]; exact HK.out), h7, HR.out.ext hxx, HX.out.trans (ExtBut.of_ext hxx)⟩
        case measure => simp [intOf]; omega
    · obtain rfl : r = s := by omega
      have hcut : Cut K f a m b (mid + m) r := by
        refine Cut.mk' HH.out (by omega) (by omega) (by omega) (by omega) (by omega) ?_ ?_
        · rcases h6.out with e | e
          · left; omega
          · right; right; omega
        · rcases h7.out with e | e
          · left; omega
          · right; right; exact e
      have HCU := Lib.hid hcut
      have hsm : r ≤ mid := by omega
      have hsm2 : r ≤ m := by omega
      have hsa : a ≤ r := by omega
      have hse : m ≤ mid + m - r := by omega
      have hseb : mid + m - r ≤ b := by omega
      obtain ⟨E, hE⟩ : ∃ E : Nat, E = mid + m - r := ⟨_, rfl⟩
      have hE1 : E + r ≤ mid + m := by omega
      have hE2 : mid + m ≤ E + r := by omega
      have eE : (mid : Int) + (m : Int) - (r : Int) = (E : Int) := by omega
      have HE := Lib.hid hE
      have hVr := V_rot (e := E) HV.out hsa hsm2 (by omega) (by omega)
      have HVr := Lib.hid hVr
      have HL : Hid (Halves K (rot f r m E) a r mid) := by rw [hE]; exact low_halves HH.out hcut
      have HU : Hid (Halves K (rot f r m E) mid E b) := by rw [hE]; exact high_halves HH.out hcut
      clear hcut h6 h7 hE hVr
      by_cases hR : r < m ∧ m < E
      · obtain ⟨hRa, hRb⟩ := hR
        by_cases hL : a < r ∧ r < mid
        · obtain ⟨hLa, hLb⟩ := hL
          by_cases hH : mid < E ∧ E < b
          · obtain ⟨hHa, hHb⟩ := hH
            go_wp2_with fail
            all_goals
              refine (rotate_any B n cap f r m E _ _ HR.out hRa hRb (by omega) hn).mono ?_
              rintro e w1 ⟨rfl, hr1, hx1⟩
              have HR1 := Lib.hid hr1
              have HX1 : Hid (ExtBut B w w1) := HX.out.trans hx1
              clear hr1 hx1
              go_wp2_with fail
              all_goals
                refine (ih (rot f r m E) a r mid _ (by omega) HR1.out hLa hLb (by omega) HL.out (fun p q1 q2 => HVr.out p q1 (by omega)) (HC.out.mono HX1.out)).mono ?_
                rintro e w2 ⟨rfl, hr2⟩
                obtain ⟨g1, hr2, hs2, ho2, hx2⟩ := hr2
                have HR2 := Lib.hid hr2
                have HS2 := Lib.hid hs2
                have HO2 := Lib.hid ho2
                have HX2 : Hid (ExtBut B w w2) := HX1.out.trans hx2
                clear hr2 hs2 ho2 hx2
                go_wp2_with fail
                all_goals
                  refine (ih g1 mid E b _ (by omega) HR2.out hHa hHb (by omega) (HU.out.congr (by omega) (by omega) fun p q1 q2 => HS2.out.out p (by omega)) (fun p q1 q2 => by rw [HS2.out.out p (by omega)]; exact HVr.out p (by omega) q2) (HC.out.mono HX2.out)).mono ?_
                  rintro e w3 ⟨rfl, hr3⟩
                  obtain ⟨g2, hr3, hs3, ho3, hx3⟩ := hr3
                  have HR3 := Lib.hid hr3
                  have HS3 := Lib.hid hs3
                  have HO3 := Lib.hid ho3
                  have HX3 : Hid (ExtBut B w w3) := HX2.out.trans hx3
                  clear hr3 hs3 ho3 hx3
                  go_wp2_with fail
                  all_goals
                    go_end0
                    refine ⟨rfl, ?_⟩
                    exact merge_end HH.out HCU.out hsm (by omega) (by omega) (by rw [← HE.out]; exact HS2.out) HO2.out HS3.out HO3.out HR3.out HX3.out
          · have hHx : mid = E ∨ E = b := by omega
            have HHx := Lib.hid hHx
            clear hHx
            go_wp2_with fail
            all_goals
              refine (rotate_any B n cap f r m E _ _ HR.out hRa hRb (by omega) hn).mono ?_
              rintro e w1 ⟨rfl, hr1, hx1⟩
              have HR1 := Lib.hid hr1
              have HX1 : Hid (ExtBut B w w1) := HX.out.trans hx1
              clear hr1 hx1
              go_wp2_with fail
              all_goals
                refine (ih (rot f r m E) a r mid _ (by omega) HR1.out hLa hLb (by omega) HL.out (fun p q1 q2 => HVr.out p q1 (by omega)) (HC.out.mono HX1.out)).mono ?_
                rintro e w2 ⟨rfl, hr2⟩
                obtain ⟨g1, hr2, hs2, ho2, hx2⟩ := hr2
                have HR2 := Lib.hid hr2
                have HS2 := Lib.hid hs2
                have HO2 := Lib.hid ho2
                have HX2 : Hid (ExtBut B w w2) := HX1.out.trans hx2
                clear hr2 hs2 ho2 hx2
                go_wp2_with fail
                all_goals
                  go_end0
                  refine ⟨rfl, ?_⟩
                  exact merge_end HH.out HCU.out hsm (by omega) (by omega) (by rw [← HE.out]; exact HS2.out) HO2.out (Same.refl _ _ _) ((HU.out.congr (by omega) (by omega) fun p q1 q2 => HS2.out.out p (by omega)).sorted HHx.out) HR2.out HX2.out
        · have hLx : a = r ∨ r = mid := by omega
          have HLx := Lib.hid hLx
          clear hLx
          by_cases hH : mid < E ∧ E < b
          · obtain ⟨hHa, hHb⟩ := hH
            go_wp2_with fail
            all_goals
              refine (rotate_any B n cap f r m E _ _ HR.out hRa hRb (by omega) hn).mono ?_
              rintro e w1 ⟨rfl, hr1, hx1⟩
              have HR1 := Lib.hid hr1
              have HX1 : Hid (ExtBut B w w1) := HX.out.trans hx1
              clear hr1 hx1
              obtain ⟨g1, HS2, HO2, HR2, HX2⟩ : ∃ g1, Hid (Same (rot f r m E) g1 a mid) ∧ Hid (Sorted K g1 a mid) ∧ Hid (Row w1 B n g1) ∧ Hid (ExtBut B w w1) := ⟨_, Same.refl _ _ _, HL.out.sorted HLx.out, HR1.out, HX1.out⟩
              go_wp2_with fail
              all_goals
                refine (ih g1 mid E b _ (by omega) HR2.out hHa hHb (by omega) (HU.out.congr (by omega) (by omega) fun p q1 q2 => HS2.out.out p (by omega)) (fun p q1 q2 => by rw [HS2.out.out p (by omega)]; exact HVr.out p (by omega) q2) (HC.out.mono HX2.out)).mono ?_
                rintro e w3 ⟨rfl, hr3⟩
                obtain ⟨g2, hr3, hs3, ho3, hx3⟩ := hr3
                have HR3 := Lib.hid hr3
                have HS3 := Lib.hid hs3
                have HO3 := Lib.hid ho3
                have HX3 : Hid (ExtBut B w w3) := HX2.out.trans hx3
                clear hr3 hs3 ho3 hx3
                go_wp2_with fail
                all_goals
                  go_end0
                  refine ⟨rfl, ?_⟩
                  exact merge_end HH.out HCU.out hsm (by omega) (by omega) (by rw [← HE.out]; exact HS2.out) HO2.out HS3.out HO3.out HR3.out HX3.out
          · have hHx : mid = E ∨ E = b := by omega
            have HHx := Lib.hid hHx
            clear hHx
            go_wp2_with fail
            all_goals
              refine (rotate_any B n cap f r m E _ _ HR.out hRa hRb (by omega) hn).mono ?_
              rintro e w1 ⟨rfl, hr1, hx1⟩
              have HR1 := Lib.hid hr1
              have HX1 : Hid (ExtBut B w w1) := HX.out.trans hx1
              clear hr1 hx1
              obtain ⟨g1, HS2, HO2, HR2, HX2⟩ : ∃ g1, Hid (Same (rot f r m E) g1 a mid) ∧ Hid (Sorted K g1 a mid) ∧ Hid (Row w1 B n g1) ∧ Hid (ExtBut B w w1) := ⟨_, Same.refl _ _ _, HL.out.sorted HLx.out, HR1.out, HX1.out⟩
              go_wp2_with fail
              all_goals
                go_end0
                refine ⟨rfl, ?_⟩
                exact merge_end HH.out HCU.out hsm (by omega) (by omega) (by rw [← HE.out]; exact HS2.out) HO2.out (Same.refl _ _ _) ((HU.out.congr (by omega) (by omega) fun p q1 q2 => HS2.out.out p (by omega)).sorted HHx.out) HR2.out HX2.out
      · have hR0 : ¬ (r < m ∧ m < E) := hR
        have hRx : r = m ∨ m = E := by omega
        have HRx := Lib.hid hRx
        clear hR hRx
        by_cases hL : a < r ∧ r < mid
        · obtain ⟨hLa, hLb⟩ := hL
          by_cases hH : mid < E ∧ E < b
          · obtain ⟨hHa, hHb⟩ := hH
            have HR1 : Hid (Row wr B n (rot f r m E)) := by rw [rot_id f hsm2 (by omega) HRx.out]; exact HR.out
            have HX1 : Hid (ExtBut B w wr) := HX.out
            go_wp2_with fail
            all_goals
              refine (ih (rot f r m E) a r mid _ (by omega) HR1.out hLa hLb (by omega) HL.out (fun p q1 q2 => HVr.out p q1 (by omega)) (HC.out.mono HX1.out)).mono ?_
              rintro e w2 ⟨rfl, hr2⟩
              obtain ⟨g1, hr2, hs2, ho2, hx2⟩ := hr2
              have HR2 := Lib.hid hr2
              have HS2 := Lib.hid hs2
              have HO2 := Lib.hid ho2
              have HX2 : Hid (ExtBut B w w2) := HX1.out.trans hx2
              clear hr2 hs2 ho2 hx2
              go_wp2_with fail
              all_goals
                refine (ih g1 mid E b _ (by omega) HR2.out hHa hHb (by omega) (HU.out.congr (by omega) (by omega) fun p q1 q2 => HS2.out.out p (by omega)) (fun p q1 q2 => by rw [HS2.out.out p (by omega)]; exact HVr.out p (by omega) q2) (HC.out.mono HX2.out)).mono ?_
                rintro e w3 ⟨rfl, hr3⟩
                obtain ⟨g2, hr3, hs3, ho3, hx3⟩ := hr3
                have HR3 := Lib.hid hr3
                have HS3 := Lib.hid hs3
                have HO3 := Lib.hid ho3
                have HX3 : Hid (ExtBut B w w3) := HX2.out.trans hx3
                clear hr3 hs3 ho3 hx3
                go_wp2_with fail
                all_goals
                  go_end0
                  refine ⟨rfl, ?_⟩
                  exact merge_end HH.out HCU.out hsm (by omega) (by omega) (by rw [← HE.out]; exact HS2.out) HO2.out HS3.out HO3.out HR3.out HX3.out
          · have hHx : mid = E ∨ E = b := by omega
            have HHx := Lib.hid hHx
            clear hHx
            have HR1 : Hid (Row wr B n (rot f r m E)) := by rw [rot_id f hsm2 (by omega) HRx.out]; exact HR.out
            have HX1 : Hid (ExtBut B w wr) := HX.out
            go_wp2_with fail
            all_goals
              refine (ih (rot f r m E) a r mid _ (by omega) HR1.out hLa hLb (by omega) HL.out (fun p q1 q2 => HVr.out p q1 (by omega)) (HC.out.mono HX1.out)).mono ?_
              rintro e w2 ⟨rfl, hr2⟩
              obtain ⟨g1, hr2, hs2, ho2, hx2⟩ := hr2
              have HR2 := Lib.hid hr2
              have HS2 := Lib.hid hs2
              have HO2 := Lib.hid ho2
              have HX2 : Hid (ExtBut B w w2) := HX1.out.trans hx2
              clear hr2 hs2 ho2 hx2
              go_wp2_with fail
              all_goals
                go_end0
                refine ⟨rfl, ?_⟩
                exact merge_end HH.out HCU.out hsm (by omega) (by omega) (by rw [← HE.out]; exact HS2.out) HO2.out (Same.refl _ _ _) ((HU.out.congr (by omega) (by omega) fun p q1 q2 => HS2.out.out p (by omega)).sorted HHx.out) HR2.out HX2.out
        · have hLx : a = r ∨ r = mid := by omega
          have HLx := Lib.hid hLx
          clear hLx
          by_cases hH : mid < E ∧ E < b
          · obtain ⟨hHa, hHb⟩ := hH
            have HR1 : Hid (Row wr B n (rot f r m E)) := by rw [rot_id f hsm2 (by omega) HRx.out]; exact HR.out
            have HX1 : Hid (ExtBut B w wr) := HX.out
            obtain ⟨g1, HS2, HO2, HR2, HX2⟩ : ∃ g1, Hid (Same (rot f r m E) g1 a mid) ∧ Hid (Sorted K g1 a mid) ∧ Hid (Row wr B n g1) ∧ Hid (ExtBut B w wr) := ⟨_, Same.refl _ _ _, HL.out.sorted HLx.out, HR1.out, HX1.out⟩
            go_wp2_with fail
            all_goals
              refine (ih g1 mid E b _ (by omega) HR2.out hHa hHb (by omega) (HU.out.congr (by omega) (by omega) fun p q1 q2 => HS2.out.out p (by omega)) (fun p q1 q2 => by rw [HS2.out.out p (by omega)]; exact HVr.out p (by omega) q2) (HC.out.mono HX2.out)).mono ?_
              rintro e w3 ⟨rfl, hr3⟩
              obtain ⟨g2, hr3, hs3, ho3, hx3⟩ := hr3
              have HR3 := Lib.hid hr3
              have HS3 := Lib.hid hs3
              have HO3 := Lib.hid ho3
              have HX3 : Hid (ExtBut B w w3) := HX2.out.trans hx3
              clear hr3 hs3 ho3 hx3
              go_wp2_with fail
              all_goals
                go_end0
                refine ⟨rfl, ?_⟩
                exact merge_end HH.out HCU.out hsm (by omega) (by omega) (by rw [← HE.out]; exact HS2.out) HO2.out HS3.out HO3.out HR3.out HX3.out
          · have hHx : mid = E ∨ E = b := by omega
            have HHx := Lib.hid hHx
            clear hHx
            have HR1 : Hid (Row wr B n (rot f r m E)) := by rw [rot_id f hsm2 (by omega) HRx.out]; exact HR.out
            have HX1 : Hid (ExtBut B w wr) := HX.out
            obtain ⟨g1, HS2, HO2, HR2, HX2⟩ : ∃ g1, Hid (Same (rot f r m E) g1 a mid) ∧ Hid (Sorted K g1 a mid) ∧ Hid (Row wr B n g1) ∧ Hid (ExtBut B w wr) := ⟨_, Same.refl _ _ _, HL.out.sorted HLx.out, HR1.out, HX1.out⟩
            go_wp2_with fail
            all_goals
              go_end0
              refine ⟨rfl, ?_⟩
              exact merge_end HH.out HCU.out hsm (by omega) (by omega) (by rw [← HE.out]; exact HS2.out) HO2.out (Same.refl _ _ _) ((HU.out.congr (by omega) (by omega) fun p q1 q2 => HS2.out.out p (by omega)).sorted HHx.out) HR2.out HX2.out


end Go.Proofs.Ytleogddijlabdaa
