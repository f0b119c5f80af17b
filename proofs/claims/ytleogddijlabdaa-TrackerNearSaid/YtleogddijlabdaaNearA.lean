/- plane.Near: its look at the places. -/
import Derived.Test.YtleogddijlabdaaSrtG
set_option linter.unusedSimpArgs false
set_option linter.unusedVariables false
namespace Go.Proofs.Ytleogddijlabdaa
open Go.RowKit Srt

/-- n places stand from a cell on. -/
def PlRow (w : World) (pb off n : Nat) (px py : Nat → Int) : Prop :=
  ∀ i, i < n → w.cell? ⟨pb, off + i * 2, none⟩ = some (.int .i64 (px i)) ∧ w.cell? ⟨pb, off + i * 2 + 1, none⟩ = some (.int .i64 (py i))
theorem PlRow.ext {w w' : World} {pb off n : Nat} {px py : Nat → Int} (h : PlRow w pb off n px py) (k : Ext w w') : PlRow w' pb off n px py :=
  fun i hi => ⟨k.cellAt (h i hi).1, k.cellAt (h i hi).2⟩

/-- May all places be? -/
def allChk (px py : Nat → Int) : Nat → Bool
  | 0 => true
  | n + 1 => allChk px py n && chk (px n) (py n)
theorem allChk_iff {px py : Nat → Int} {n : Nat} : allChk px py n = true ↔ ∀ i, i < n → chk (px i) (py i) = true := by
  induction n with
  | zero => simp [allChk]
  | succ n ih =>
    simp only [allChk, Bool.and_eq_true, ih]
    constructor
    · rintro ⟨h1, h2⟩ i hi
      by_cases e : i = n
      · subst e; exact h2
      · exact h1 i (by omega)
    · intro h; exact ⟨fun i hi => h i (by omega), h n (by omega)⟩

set_option maxHeartbeats 400000 in
theorem near1_any (x y : Int) (w : World) :
    Calls Try.prog 27 #[.agg #[.int .i64 x, .int .i64 y]] w fun e w' => e = .returned (.bool (!chk x y)) ∧ Ext w w' := by
  go_enter Try.func27, Try.ntmps27
  go_wp2_with fail
  refine (Check_any _ _ _).mono ?_
  rintro e w1 ⟨rfl, hb⟩
  go_wp2_with fail
  go_ret
  exact ⟨rfl, by (repeat' (first | exact Ext.refl _ | assumption | (apply Ext.after; assumption) | (refine Ext.alloc ?_ _) | (refine Ext.drew ?_) | (refine Ext.drewN ?_ _) | (refine Ext.setCell ?_ ?_ _) | (simp; done) | (simp; omega) | omega))⟩

def IdxPost (w w' : World) (n : Nat) (px py : Nat → Int) (e : Ending) : Prop :=
  Ext w w' ∧ ∃ q : Int, e = .returned (.int .i64 q) ∧ ((allChk px py n = true ∧ q = -1) ∨ (allChk px py n = false ∧ 0 ≤ q))

set_option maxHeartbeats 400000 in
theorem IndexFunc_any (pb off n cap : Nat) (px py : Nat → Int) (w : World) (hn : n ≤ 140737488351232) (h : PlRow w pb off n px py) :
    Calls Try.prog 43 #[.slice (some ⟨pb, off, none⟩) n cap, .func (.func 27) #[] #[]] w fun e w' => IdxPost w w' n px py e := by
  have HP := Lib.hid h
  clear h
  go_enter Try.func43, Try.ntmps43
  go_wp2_with fail
  go_loopw [8, 5] (fun iv xv wr => ∃ i : Nat, iv = .int .i64 i ∧ i ≤ n ∧ Hid (allChk px py i = true) ∧ Ext w wr) (fun i _ _ => n - (intOf i).toNat)
  case atStart => exact ⟨0, rfl, Nat.zero_le _, rfl, Ext.refl _⟩
  case round =>
    obtain ⟨i, rfl, hi, ha, hx⟩ := hrel
    by_cases hlt : i < n
    · have c := HP.out.ext hx i hlt
      obtain ⟨c1, c2⟩ := c
      go_wp2_with fail
      refine (near1_any _ _ _).mono ?_
      rintro e w1 ⟨rfl, hb⟩
      have hxx : Ext w w1 := hx.trans hb
      by_cases hk : chk (px i) (py i) = true
      · rw [hk]
        have hk := Lib.hid hk
        go_wp2_with fail
        go_roundw
        case rel => exact ⟨i + 1, by go_num, by omega, by show _ = _; simp only [allChk]; rw [ha.out, hk.out]; rfl, hxx⟩
        case measure => simp [intOf]; omega
      · rw [show chk (px i) (py i) = false from by simpa using hk]
        have hk := Lib.hid hk
        go_wp2_with fail
        go_ret
        refine ⟨hxx, i, rfl, Or.inr ⟨?_, by omega⟩⟩
        cases hall : allChk px py n with
        | false => rfl
        | true => exact absurd (allChk_iff.1 hall i hlt) hk.out
    · go_wp2_with fail
      go_ret
      obtain rfl : i = n := by omega
      exact ⟨hx, -1, rfl, Or.inl ⟨ha, rfl⟩⟩

theorem IndexFunc_nil (a : Option Addr) (cap : Nat) (px py : Nat → Int) (w : World) :
    Calls Try.prog 43 #[.slice a 0 cap, .func (.func 27) #[] #[]] w fun e w' => IdxPost w w' 0 px py e := by
  go_enter Try.func43, Try.ntmps43
  go_wp2_with fail
  refine wp_loop_rounds 1 ?_
  rw [rounds_succ]
  go_wp2_with fail
  go_ret
  exact ⟨Ext.refl _, -1, rfl, Or.inl ⟨rfl, rfl⟩⟩

/-- A slice of n places. -/
def Places (w : World) (v : Value) (n : Nat) (px py : Nat → Int) : Prop :=
  ((∃ a cap, v = .slice a 0 cap) ∧ n = 0) ∨ ∃ pb off cap, v = .slice (some ⟨pb, off, none⟩) n cap ∧ PlRow w pb off n px py

theorem Places.ext {w w' : World} {v : Value} {n : Nat} {px py : Nat → Int} (h : Places w v n px py) (k : Ext w w') : Places w' v n px py := by
  rcases h with h | ⟨pb, off, cap, hv, hp⟩
  · exact Or.inl h
  · exact Or.inr ⟨pb, off, cap, hv, hp.ext k⟩

theorem IndexFunc_all (v : Value) (n : Nat) (px py : Nat → Int) (w : World) (hn : n ≤ 140737488351232) (h : Places w v n px py) :
    Calls Try.prog 43 #[v, .func (.func 27) #[] #[]] w fun e w' => IdxPost w w' n px py e := by
  rcases h with ⟨⟨a, cap, rfl⟩, rfl⟩ | ⟨pb, off, cap, rfl, hp⟩
  · exact IndexFunc_nil a cap px py w
  · exact IndexFunc_any pb off n cap px py w hn hp

theorem ContainsFunc_all (v : Value) (n : Nat) (px py : Nat → Int) (w : World) (hn : n ≤ 140737488351232) (h : Places w v n px py) :
    Calls Try.prog 26 #[v, .func (.func 27) #[] #[]] w fun e w' => e = .returned (.bool (!allChk px py n)) ∧ Ext w w' := by
  have HP := Lib.hid h
  clear h
  go_enter Try.func26, Try.ntmps26
  go_wp2_with fail
  refine (IndexFunc_all v n px py _ hn HP.out).mono ?_
  rintro e w1 ⟨hx, q, rfl, h⟩
  rcases h with ⟨h1, rfl⟩ | ⟨h1, h2⟩
  · have h1 := Lib.hid h1
    go_wp2_with fail
    go_ret
    exact ⟨by rw [h1.out]; rfl, hx⟩
  · have h1 := Lib.hid h1
    go_wp2_with fail
    go_ret
    exact ⟨by rw [h1.out]; rfl, hx⟩

theorem sortStable_any (B n cap : Nat) (f : Nat → Int) (p1 p2 : Value) (V : Int → Prop) (K : Int → Int) (w : World) (hr : Row w B n f) (hn : n ≤ 1000)
    (hinc : ∀ p q, p < q → q < n → f p < f q) (hV : ∀ p, p < n → V (f p)) (hc : CmpAt B w V K p1 p2) :
    Calls Try.prog 28 #[.slice (some ⟨B, 0, none⟩) n cap, .func (.func 29) #[] #[p1, p2]] w fun e w' =>
      e = .returned (.tuple #[]) ∧ SortedRow w w' B n f 0 n K := by
  have H := fun w' (e : w' = w) => stable_any B n cap f p1 p2 V K w' (e ▸ hr) hn hinc hV (e ▸ hc)
  have H := Lib.hid H
  clear hr hinc hV hc
  go_enter Try.func28, Try.ntmps28
  go_wp2_with fail
  refine (H.out _ rfl).mono ?_
  rintro e w1 ⟨rfl, h⟩
  go_wp2_with fail
  go_end0
  exact ⟨rfl, h⟩

theorem insertion_nil (fv : Value) (w : World) :
    Calls Try.prog 50 #[.slice none 0 0, .int .i64 0, .int .i64 0, fv] w fun e w' => e = .returned (.tuple #[]) ∧ w' = w := by
  go_enter Try.func50, Try.ntmps50
  go_wp2_with fail
  refine wp_loop_rounds 1 ?_
  rw [rounds_succ]
  go_wp2_with fail
  go_end0
  exact ⟨rfl, rfl⟩

theorem stable_nil (fv : Value) (w : World) :
    Calls Try.prog 44 #[.slice none 0 0, .int .i64 0, fv] w fun e w' => e = .returned (.tuple #[]) ∧ w' = w := by
  go_enter Try.func44, Try.ntmps44
  go_wp2_with fail
  refine wp_loop_rounds 1 ?_
  rw [rounds_succ]
  go_wp2_with fail
  refine (insertion_nil _ _).mono ?_
  rintro e w1 ⟨rfl, rfl⟩
  go_wp2_with fail
  refine wp_loop_rounds 1 ?_
  rw [rounds_succ]
  go_wp2_with fail
  go_end0
  exact ⟨rfl, rfl⟩

theorem sortStable_nil (fv : Value) (w : World) :
    Calls Try.prog 28 #[.slice none 0 0, fv] w fun e w' => e = .returned (.tuple #[]) ∧ w' = w := by
  go_enter Try.func28, Try.ntmps28
  go_wp2_with fail
  refine (stable_nil _ _).mono ?_
  rintro e w1 ⟨rfl, rfl⟩
  go_wp2_with fail
  go_end0
  exact ⟨rfl, rfl⟩

end Go.Proofs.Ytleogddijlabdaa
