/- Go's insertion sort by a comparison, walked. -/
import Derived.Test.YtleogddijlabdaaSrtM
import Derived.Test.YtleogddijlabdaaSrtB
set_option linter.unusedSimpArgs false
set_option linter.unusedVariables false
namespace Go.Proofs.Ytleogddijlabdaa
open Go.RowKit Srt

/-- The comparison answers by the keys, in whatever world in which block B alone was written since w. -/
def CmpAt (B : Nat) (w : World) (V : Int → Prop) (K : Int → Int) (p1 p2 : Value) : Prop :=
  ∀ w', ExtBut B w w' → ∀ x y : Int, V x → V y → Calls Try.prog 29 #[.int .i64 x, .int .i64 y, p1, p2] w' fun e w'' => e = .returned (.int .i64 (cmpI (K x) (K y))) ∧ Ext w' w''

theorem CmpAt.mono {B : Nat} {w w1 : World} {V : Int → Prop} {K : Int → Int} {p1 p2 : Value} (h : CmpAt B w V K p1 p2) (k : ExtBut B w w1) : CmpAt B w1 V K p1 p2 :=
  fun w' x => h w' (k.trans x)

def SortedRow (w w' : World) (B n : Nat) (f : Nat → Int) (a b : Nat) (K : Int → Int) : Prop :=
  ∃ g, Row w' B n g ∧ Same f g a b ∧ Sorted K g a b ∧ ExtBut B w w'

def InnerRel (w wr : World) (B n : Nat) (f : Nat → Int) (a i j : Nat) (K : Int → Int) : Prop :=
  ∃ g, Row wr B n g ∧ Ins K f g a i j ∧ ExtBut B w wr

theorem cmpI_neg {x y : Int} : cmpI x y < 0 ↔ x < y := by unfold cmpI; repeat' split
                                                          all_goals omega

abbrev cmpF (p1 p2 : Value) : Value := .func (.func 29) #[] #[p1, p2]

set_option maxHeartbeats 1000000 in
theorem insertion_any (B n cap : Nat) (f : Nat → Int) (a b : Nat) (p1 p2 : Value) (V : Int → Prop) (K : Int → Int) (w : World) (hr : Row w B n f) (h1 : a ≤ b) (h2 : b ≤ n) (hn : n ≤ 1000)
    (hinc : ∀ p q, a ≤ p → p < q → q < b → f p < f q) (hV : ∀ p, a ≤ p → p < b → V (f p)) (hc : CmpAt B w V K p1 p2) :
    Calls Try.prog 50 #[.slice (some ⟨B, 0, none⟩) n cap, .int .i64 a, .int .i64 b, .func (.func 29) #[] #[p1, p2]] w fun e w' =>
      e = .returned (.tuple #[]) ∧ SortedRow w w' B n f a b K := by
  have HI := Lib.hid hinc
  have HV := Lib.hid hV
  have HC := Lib.hid hc
  clear hinc hV hc
  go_enter Try.func50, Try.ntmps50
  go_wp2_with fail
  go_loopw [8] (fun iv wr => ∃ i : Nat, iv = .int .i64 i ∧ a < i ∧ i ≤ max b (a + 1) ∧ SortedRow w wr B n f a i K) (fun i _ => b - (intOf i).toNat)
  case atStart => exact ⟨a + 1, by go_num, by omega, by omega, f, hr, Same.refl _ _ _, fun p q h1 h2 h3 => by omega, ExtBut.refl _ _⟩
  case round =>
    obtain ⟨i, rfl, hai, hib, hrel⟩ := hrel
    obtain ⟨g0, hr0, hs0, hso0, hx0⟩ := hrel
    by_cases hlt : i < b
    · have hin : InnerRel w wr B n f a i i K := ⟨g0, hr0, Ins.begin hs0 hso0, hx0⟩
      clear hr0 hs0 hso0 hx0 hr
      go_wp2_with fail
      obtain ⟨wo, rfl⟩ : ∃ wo : World, wo = wr := ⟨_, rfl⟩
      go_loopw [9] (fun jv wr => ∃ j : Nat, jv = .int .i64 j ∧ a ≤ j ∧ j ≤ i ∧ InnerRel w wr B n f a i j K) (fun j _ => (intOf j).toNat)
      case atStart => exact ⟨i, rfl, by omega, by omega, hin⟩
      case round =>
        obtain ⟨j, rfl, haj, hji, g, hrow, hins, hx⟩ := hrel
        clear hin
        have HX := Lib.hid hx
        have HN := Lib.hid hins
        have HR := Lib.hid hrow
        clear hx hins hrow
        by_cases hg : a < j
        · obtain ⟨q, rfl⟩ : ∃ q, j = q + 1 := ⟨j - 1, by omega⟩
          have r1 := (HR.out (q + 1) (by omega)).1
          have r2 := (HR.out q (by omega)).1
          have f1 := (HR.out (q + 1) (by omega)).2
          have f2 := (HR.out q (by omega)).2
          have hv1 : V (g (q + 1)) := by
            obtain ⟨r, q1, q2, q3⟩ := HN.out.same.of (q + 1) haj (by omega)
            rw [q3]; exact HV.out r q1 (by omega)
          have hv2 : V (g q) := by
            obtain ⟨r, q1, q2, q3⟩ := HN.out.same.of q (by omega) (by omega)
            rw [q3]; exact HV.out r q1 (by omega)
          have hcall : ∀ w', Ext wr w' → Calls Try.prog 29 #[.int .i64 (g (q + 1)), .int .i64 (g q), p1, p2] w' fun e w'' => e = .returned (.int .i64 (cmpI (K (g (q + 1))) (K (g q)))) ∧ Ext w' w'' :=
            fun w' k => HC.out w' (HX.out.trans (ExtBut.of_ext k)) _ _ hv1 hv2
          have hneg := @cmpI_neg (K (g (q + 1))) (K (g q))
          generalize cmpI (K (g (q + 1))) (K (g q)) = c at *
          have k1 : ∀ w', Ext wr w' → w'.cell? ⟨B, q + 1, none⟩ = some (.int .i64 (g (q + 1))) := fun w' q => q.cellAt r1
          have k2 : ∀ w', Ext wr w' → w'.cell? ⟨B, q, none⟩ = some (.int .i64 (g q)) := fun w' q => q.cellAt r2
          have k3 : ∀ w', Ext wr w' → w'.frozen? ⟨B, q + 1, none⟩ = false := fun w' q => q.frozenAt r1 f1
          have k4 : ∀ w', Ext wr w' → w'.frozen? ⟨B, q, none⟩ = false := fun w' q => q.frozenAt r2 f2
          have kk := Ext.refl wr
          have e1 : ((q : Int) + 1 - 1) = (q : Int) := by omega
          have ew : IntKind.i64.wrap (q : Int) = (q : Int) := IntWalk.i64_in _ (by omega)
          have ev : IntKind.i64.wrap ((q : Int) + 1 - 1) = (q : Int) := by rw [e1, ew]
          have i1 : (0 : Int) ≤ (q : Int) := by omega
          have i2 : (q : Int) < (n : Int) := by omega
          have i3 : (0 : Int) ≤ (q : Int) + 1 := by omega
          have i4 : (q : Int) + 1 < (n : Int) := by omega
          have i5 : ((q : Int) + 1).toNat = q + 1 := by omega
          have g1 : decide ((a : Int) < (q : Int) + 1) = true := by simp; omega
          have g2 : decide (a ≤ q) = true := by simp; omega
          have g3 : decide (a < q + 1) = true := by simp; omega
          have g4 : decide ((a : Int) ≤ (q : Int)) = true := by simp; omega
          clear r1 r2 f1 f2 hv1 hv2
          by_cases hk : K (g (q + 1)) < K (g q)
          · have hc0 : c < 0 := hneg.2 hk
            have HK := Lib.hid hk
            clear hneg hk
            go_wp2_with fail
            go_region_held3 (fun w' => Ext wr w')
              ((first | assumption | ((repeat' (first | exact Ext.refl _ | assumption | (apply Ext.after; assumption) | (refine Ext.alloc ?_ _) | (refine Ext.drew ?_) | (refine Ext.drewN ?_ _) | (refine Ext.setCell ?_ ?_ _) | (simp; done) | (simp; omega) | omega)); done)))
              ((first | (go_at_call 29; refine (hcall _ (by assumption)).mono ?_; rintro e w2 ⟨rfl, hx2⟩)))
            have hxx : Ext wr w2 := by (repeat' (first | exact Ext.refl _ | assumption | (apply Ext.after; assumption) | (refine Ext.alloc ?_ _) | (refine Ext.drew ?_) | (refine Ext.drewN ?_ _) | (refine Ext.setCell ?_ ?_ _) | (simp; done) | (simp; omega) | omega))
            have hsw := Row.swap (HR.out.ext hxx) (i := q + 1) (j := q) (by omega) (by omega)
            have HS := Lib.hid hsw
            have c1 := k1 _ hxx
            have c2 := k2 _ hxx
            have c3 := k3 _ hxx
            have c4 := k4 _ hxx
            clear hsw k1 k2 k3 k4 hcall
            go_wp2_with fail
            go_region
            go_wp2_with fail
            go_roundw
            case rel => exact ⟨q, by go_num, by omega, by omega, _, HS.out, HN.out.step hg hji HK.out, (((HX.out.trans (ExtBut.of_ext hxx)).setCell _ _).setCell _ _).drew⟩
            case measure => simp [intOf] <;> omega
          · have hc0 : 0 ≤ c := by omega
            have HK := Lib.hid hk
            clear hneg hk
            go_wp2_with fail
            go_region_held3 (fun w' => Ext wr w')
              ((first | assumption | ((repeat' (first | exact Ext.refl _ | assumption | (apply Ext.after; assumption) | (refine Ext.alloc ?_ _) | (refine Ext.drew ?_) | (refine Ext.drewN ?_ _) | (refine Ext.setCell ?_ ?_ _) | (simp; done) | (simp; omega) | omega)); done)))
              ((first | (go_at_call 29; refine (hcall _ (by assumption)).mono ?_; rintro e w2 ⟨rfl, hx2⟩)))
            have hxx : Ext wr w2 := by (repeat' (first | exact Ext.refl _ | assumption | (apply Ext.after; assumption) | (refine Ext.alloc ?_ _) | (refine Ext.drew ?_) | (refine Ext.drewN ?_ _) | (refine Ext.setCell ?_ ?_ _) | (simp; done) | (simp; omega) | omega))
            go_wp2_with fail
            go_roundw
            case rel =>
              have hd := HN.out.done haj hji (fun p r h1 h2 h3 => HI.out p r h1 h2 (by omega)) (Or.inr (by have := HK.out; rw [show q + 1 - 1 = q from rfl]; omega))
              exact ⟨i + 1, by go_num, by omega, by omega, g, HR.out.ext hxx, hd.1, hd.2, HX.out.trans (ExtBut.of_ext hxx)⟩
            case measure => simp [intOf]; omega
        · have hd : decide (a < j) = false := by simpa using hg
          go_wp2_with fail
          go_quiet (fail)
          go_wp2_with fail
          go_roundw
          case rel =>
            have hd := HN.out.done haj hji (fun p r h1 h2 h3 => HI.out p r h1 h2 (by omega)) (Or.inl (by omega))
            exact ⟨i + 1, by go_num, by omega, by omega, g, HR.out, hd.1, hd.2, HX.out.trans (ExtBut.of_ext ((Ext.refl _).drewN _))⟩
          case measure => simp [intOf]; omega
    · go_wp2_with fail
      go_end0
      by_cases e : i = b
      · subst e; exact ⟨rfl, g0, hr0, hs0, hso0, hx0⟩
      · have e2 : a = b := by omega
        subst e2
        have ei : i = a + 1 := by omega
        subst ei
        refine ⟨rfl, g0, hr0, ⟨fun p h => ?_, fun p h1 h2 => by omega, fun p h1 h2 => by omega⟩, fun p q h1 h2 h3 => by omega, hx0⟩
        by_cases c : p = a
        · subst c
          obtain ⟨q, q1, q2, q3⟩ := hs0.of p (Nat.le_refl _) (by omega)
          rw [q3]; congr 1; omega
        · exact hs0.out p (by omega)

end Go.Proofs.Ytleogddijlabdaa
