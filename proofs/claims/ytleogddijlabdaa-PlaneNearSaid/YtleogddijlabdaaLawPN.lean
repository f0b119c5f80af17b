/- The law PlaneNear, walked. -/
import Derived.Test.YtleogddijlabdaaAppP
import Derived.Test.YtleogddijlabdaaRefB
import Derived.Test.YtleogddijlabdaaPlD
set_option linter.unusedSimpArgs false
set_option linter.unusedVariables false
namespace Go.Proofs.Ytleogddijlabdaa
open Go.RowKit

set_option maxHeartbeats 400000 in
theorem Ref_any (x y : Int) (w : World) :
    Calls Try.prog 8 #[.agg #[.int .i64 x, .int .i64 y]] w fun e w' => e = .returned (.agg #[.int .i64 x, .int .i64 y]) ∧ Ext w w' := by
  go_enter Try.func8, Try.ntmps8
  go_wp2_with fail
  exact bodyPost_ret (v := .agg #[.int .i64 x, .int .i64 y]) (by simp [results, Try.results8, go_sem]) rfl ⟨rfl, by (repeat' (first | exact Ext.refl _ | assumption | (apply Ext.after; assumption) | (refine Ext.alloc ?_ _) | (refine Ext.drew ?_) | (refine Ext.drewN ?_ _) | (refine Ext.setCell ?_ ?_ _) | (simp; done) | (simp; omega) | omega))⟩

/-- Two slices of whole numbers are the same. -/
def sameL : List Int → List Int → Bool := fun xs ys => decide (xs = ys)

set_option maxHeartbeats 1000000 in
theorem Same_eq (v v' : Value) (xs : List Int) (w : World) (hn : xs.length ≤ 1000000) (h : ISl w v xs) (h' : ISl w v' xs) :
    Calls Try.prog 11 #[v, v'] w fun e w' => e = .returned (.bool true) ∧ Ext w w' := by
  obtain ⟨a, cap, rfl⟩ := h.shape
  obtain ⟨a', cap', rfl⟩ := h'.shape
  have hne : (((xs.length : Nat) : Int) != (xs.length : Int)) = false := by simp
  generalize hL : xs.length = L at *
  have HL := Lib.hid hL
  have H1 := Lib.hid h
  have H2 := Lib.hid h'
  clear h h' hL
  go_enter Try.func11, Try.ntmps11
  go_wp2_with fail
  go_loopw [5] (fun iv wr => ∃ i : Nat, iv = .int .i64 i ∧ i ≤ L ∧ Ext w wr) (fun i _ => L - (intOf i).toNat)
  case atStart => exact ⟨0, rfl, Nat.zero_le _, Ext.refl _⟩
  case round =>
    obtain ⟨i, rfl, hi, hx⟩ := hrel
    by_cases hlt : i < L
    · obtain ⟨b, o, rfl, c1⟩ := H1.out.at (k := i) (by have := HL.out; omega)
      obtain ⟨b', o', rfl, c2⟩ := H2.out.at (k := i) (by have := HL.out; omega)
      have d1 := hx.cellAt c1
      have d2 := hx.cellAt c2
      have i1 : (0 : Int) ≤ (i : Int) := by omega
      have i2 : (i : Int) < (L : Int) := by omega
      have he : (xs.getD i 0 != xs.getD i 0) = false := by simp
      clear c1 c2
      go_wp2_with fail
      go_quiet (fail)
      go_wp2_with fail
      go_roundw
      case rel => exact ⟨i + 1, by go_num, by omega, hx.drewN _⟩
      case measure => simp [intOf]; omega
    · go_wp2_with fail
      go_ret
      exact ⟨rfl, hx⟩

theorem pw_range {K : Int → Int} {g : Nat → Int} : ∀ {n : Nat}, Srt.Sorted K g 0 n → ((List.range n).map g).Pairwise (Srt.LT K) := by
  intro n
  induction n with
  | zero => intro _; exact List.Pairwise.nil
  | succ n ih =>
    intro h
    rw [List.range_succ, List.map_append, List.map_singleton]
    refine pw_snoc (ih fun p q a b c => h p q a b (by omega)) fun y hy => ?_
    obtain ⟨p, hp, rfl⟩ := List.mem_map.1 hy
    exact h p n (by omega) (List.mem_range.1 hp) (by omega)

theorem near_join {K : Int → Int} {w w' : World} {n : Nat} {v : Value} {xs : List Int} (h : NearV w w' n K v) (hs : Sorted0 K n xs) : ISl w' v xs := by
  rcases h with ⟨h0, hv⟩ | ⟨B, cap, g, h0, hB, hv, hr, hsm, hso⟩
  · subst h0; exact Or.inl ⟨hv, List.eq_nil_of_length_eq_zero hs.2.2⟩
  · have e : xs = (List.range n).map g := by
      refine sorted_one hs.1 (pw_range hso) fun u => ?_
      rw [hs.2.1 u, List.mem_map]
      constructor
      · rintro ⟨a, b⟩
        obtain ⟨q, q1, q2, q3⟩ := hsm.to u.toNat (Nat.zero_le _) (by omega)
        exact ⟨q, List.mem_range.2 q2, by have q3' : ((u.toNat : Nat) : Int) = g q := q3; omega⟩
      · rintro ⟨q, q1, q2⟩
        obtain ⟨r, r1, r2, r3⟩ := hsm.of q (Nat.zero_le _) (List.mem_range.1 q1)
        have r3' : g q = (r : Int) := r3
        omega
    refine Or.inr ⟨B, 0, cap, by rw [hs.2.2]; exact hv, fun i hi => ?_⟩
    rw [hs.2.2] at hi
    rw [Nat.zero_add, (hr i hi).1, e, List.getD_eq_getElem?_getD, List.getElem?_map, List.getElem?_range hi]; rfl

set_option maxRecDepth 100000 in
set_option maxHeartbeats 2000000 in
theorem PlaneNear_walk (x y : Int) (v : Value) (n : Nat) (px py : Nat → Int) (w : World) (hn : n ≤ 9223372036854775807) (h : Places w v n px py) :
    Calls Try.prog 3 #[.agg #[.int .i64 x, .int .i64 y], v] w fun e w' => e = .returned (.bool true) ∧ Ext w w' := by
  obtain ⟨a, cap, rfl⟩ := h.shape
  by_cases hl : 170 < n
  · have hl' : decide (170 < (n : Int)) = true := by simp; omega
    go_enter Try.func3, Try.ntmps3
    go_wp2_with fail
    refine (awake17 _).mono ?_
    rintro e w1 ⟨rfl, hx⟩
    go_wp2_with fail
    go_ret
    exact ⟨rfl, by (repeat' (first | exact Ext.refl _ | assumption | (apply Ext.after; assumption) | (refine Ext.alloc ?_ _) | (refine Ext.drew ?_) | (refine Ext.drewN ?_ _) | (refine Ext.setCell ?_ ?_ _) | (simp; done) | (simp; omega) | omega))⟩
  · have hl' : decide (170 < (n : Int)) = false := by simp; omega
    have HP := Lib.hid h
    clear h
    go_enter Try.func3, Try.ntmps3
    go_wp2_with fail
    obtain ⟨W0, hW0⟩ : ∃ W0 : World, W0 = w.alloc (.cells #[.int .i64 x, .int .i64 y] 23) := ⟨_, rfl⟩
    have b0 : W0.cell? ⟨w.heap.size, 0, none⟩ = some (.int .i64 x) := by rw [hW0]; exact World.cell?_alloc_new _ _ _ _
    have b1 : W0.cell? ⟨w.heap.size, 1, none⟩ = some (.int .i64 y) := by rw [hW0]; exact World.cell?_alloc_new _ _ _ _
    have hxW : Ext w W0 := by rw [hW0]; (repeat' (first | exact Ext.refl _ | assumption | (apply Ext.after; assumption) | (refine Ext.alloc ?_ _) | (refine Ext.drew ?_) | (refine Ext.drewN ?_ _) | (refine Ext.setCell ?_ ?_ _) | (simp; done) | (simp; omega) | omega))
    rw [← hW0]
    clear hW0
    go_loopw [5, 6] (fun rv iv wr => ∃ i : Nat, iv = .int .i64 i ∧ i ≤ n ∧ OwnP wr W0.heap.size 27 rv i px py ∧ Ext W0 wr) (fun _ i _ => n - (intOf i).toNat)
    case atStart => exact ⟨0, rfl, Nat.zero_le _, OwnP.nil _ _ _ _ _, Ext.refl _⟩
    case round =>
      obtain ⟨i, rfl, hin, hown, hx⟩ := hrel
      have HO := Lib.hid hown
      have HX := Lib.hid hx
      by_cases hlt : i < n
      · rcases HP.out with ⟨_, h0⟩ | ⟨pb, off, cap', hv, hp⟩
        · omega
        · cases hv
          obtain ⟨c1, c2⟩ := hp.ext (hxW.trans hx) i hlt
          clear hp hown hx
          go_wp2_with fail
          refine (Ref_any _ _ _).mono ?_
          rintro e w1 ⟨rfl, hx1⟩
          have hz1 := (HX.out.trans hx1).size
          go_wp2_with (at_builtin; refine wp_app_place rfl _ _ 26 27 rfl Try.underlying26 info_rplace W0.heap.size _ i px py rfl (HO.out.ext (hx1.alloc _)) _ rfl (World.cell?_alloc_new _ _ _ _) (World.cell?_alloc_new _ _ _ _) (by omega) (by simp; omega) ?_; intro v' w3 hown' hext)
          have hx3 : Ext W0 w3 := hext _ ((HX.out.trans hx1).alloc _) (Nat.le_refl _)
          go_wp2_with fail
          go_roundw
          case rel => exact ⟨i + 1, by go_num, by omega, hown', hx3⟩
          case measure => simp [intOf]; omega
      · obtain rfl : n = i := by omega
        have hxx : Ext w wr := hxW.trans hx
        have HXX := Lib.hid hxx
        have c0 := hx.cellAt b0
        have c1 := hx.cellAt b1
        clear hown hxx b0 b1 hx
        go_wp2_with fail
        refine (Near_any x y _ n px py _ (by omega) (HP.out.ext HXX.out)).mono ?_
        rintro e w1 hnear
        have hx1 : Ext wr w1 := hnear.1
        have d0 := hx1.cellAt c0
        have d1 := hx1.cellAt c1
        have HN := Lib.hid hnear
        -- what the program answers: a slice and an error
        obtain ⟨a1, e1, rfl, hA⟩ : ∃ (a1 : Value) (e1 : Int), e = .returned (.tuple #[a1, .int .i64 e1]) ∧ Hid (((chk x y && allChk px py n) = false ∧ e1 = 1 ∧ a1 = .slice none 0 0) ∨ ((chk x y && allChk px py n) = true ∧ 160 < n ∧ e1 = 2 ∧ a1 = .slice none 0 0) ∨ ((chk x y && allChk px py n) = true ∧ n ≤ 160 ∧ e1 = 0 ∧ NearV wr w1 n (keyOf x y px py) a1)) := by
          rcases HN.out.2 with ⟨h1, h2⟩ | ⟨h1, h2, h3⟩ | ⟨h1, h2, v, h3, h4⟩
          · exact ⟨_, _, h2, Or.inl ⟨h1, rfl, rfl⟩⟩
          · exact ⟨_, _, h3, Or.inr (Or.inl ⟨h1, h2, rfl, rfl⟩)⟩
          · exact ⟨_, _, h3, Or.inr (Or.inr ⟨h1, h2, rfl, h4⟩)⟩
        have HX1 := Lib.hid hx1
        clear hnear HN hx1 c0 c1
        go_wp2_with fail
        refine (Ref_any _ _ _).mono ?_
        rintro e w2 ⟨rfl, hx2⟩
        go_wp2_with fail
        refine (RNear_any x y _ n px py _ (by omega) (HO.out.places.ext (HX1.out.trans hx2))).mono ?_
        rintro e w3 hrn
        have hx3 : Ext w2 w3 := hrn.1
        have HRN := Lib.hid hrn
        obtain ⟨b1, f1, rfl, hB⟩ : ∃ (b1 : Value) (f1 : Int), e = .returned (.tuple #[b1, .int .i64 f1]) ∧ Hid (f1 = e1 ∧ ∃ xs, xs.length ≤ 1000000 ∧ ISl w3 a1 xs ∧ ISl w3 b1 xs) := by
          rcases HRN.out.2 with ⟨h1, h2⟩ | ⟨h1, h2, h3⟩ | ⟨h1, h2, v, xs, h3, h4, h5⟩
          · rcases hA.out with ⟨_, rfl, rfl⟩ | ⟨g1, _⟩ | ⟨g1, _⟩
            · exact ⟨_, _, h2, rfl, [], by simp, Or.inl ⟨rfl, rfl⟩, Or.inl ⟨rfl, rfl⟩⟩
            · rw [h1] at g1; cases g1
            · rw [h1] at g1; cases g1
          · rcases hA.out with ⟨g1, _⟩ | ⟨_, _, rfl, rfl⟩ | ⟨_, g2, _⟩
            · rw [h1] at g1; cases g1
            · exact ⟨_, _, h3, rfl, [], by simp, Or.inl ⟨rfl, rfl⟩, Or.inl ⟨rfl, rfl⟩⟩
            · omega
          · rcases hA.out with ⟨g1, _⟩ | ⟨_, g2, _⟩ | ⟨_, _, rfl, g4⟩
            · rw [h1] at g1; cases g1
            · omega
            · exact ⟨_, _, h3, rfl, xs, by rw [h5.2.2]; omega, (near_join g4 h5).ext (hx2.trans hx3), h4⟩
        obtain ⟨hfe, xs, hxl, hs1, hs2⟩ := hB.out
        subst hfe
        have HX3 := Lib.hid (HXX.out.trans (HX1.out.trans (hx2.trans hx3)))
        have HS1 := Lib.hid hs1
        have HS2 := Lib.hid hs2
        clear hA hB hrn HRN hx2 hx3 hs1 hs2 d0 d1
        have hee : (f1 == f1) = true := by simp
        go_wp2_with fail
        refine (awake17 _).mono ?_
        rintro e w4 ⟨rfl, hx4⟩
        go_wp2_with fail
        refine (Same_eq _ _ xs _ hxl (HS1.out.ext hx4) (HS2.out.ext hx4)).mono ?_
        rintro e w5 ⟨rfl, hx5⟩
        go_wp2_with fail
        go_ret
        exact ⟨rfl, HX3.out.trans (hx4.trans hx5)⟩

end Go.Proofs.Ytleogddijlabdaa
