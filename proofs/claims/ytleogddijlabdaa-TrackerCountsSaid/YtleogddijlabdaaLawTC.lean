/- The law TrackerCounts, walked. -/
import Derived.Test.YtleogddijlabdaaTrkX
import Derived.IntWalk
set_option linter.unusedSimpArgs false
set_option linter.unusedVariables false
namespace Go.Proofs.Ytleogddijlabdaa
open Go.RowKit Go.Maps

theorem counts_one (a : NoteV) (hp : peerB a.node = true) (now : Int) (hk : tickB now = true) : ∃ ns, Rising ns ∧ (∀ k, k ∈ ns ↔ nodesL (oneT a) k now ≠ []) ∧ ns.length ≤ 1 := by
  by_cases hn : now ≤ a.til
  · refine ⟨[a.name.data.toList], rising_one _, fun k => ?_, by simp⟩
    by_cases e : k = a.name.data.toList
    · subst e; rw [nodes_one a hp]; simp [hk, hn]
    · rw [nodes_one_other a k e]; simp [e]
  · refine ⟨[], rising_nil, fun k => ?_, by simp⟩
    by_cases e : k = a.name.data.toList
    · subst e; rw [nodes_one a hp]; simp [hn]
    · rw [nodes_one_other a k e]; simp

set_option maxRecDepth 100000 in
set_option maxHeartbeats 4000000 in
theorem TC_long (a b : NoteV) (now : Int) (h : 100 < a.name.size ∨ 100 < b.name.size) (w : World) :
    Calls Try.prog 4 #[a.val, b.val, .int .i64 now] w fun e w' => e = .returned (.bool true) ∧ Ext w w' := by
  obtain ⟨an, ad, ax, ay, au⟩ := a
  obtain ⟨bn, bd, bx, bY, bu⟩ := b
  unfold NoteV.val
  simp only at h
  by_cases h1 : 100 < an.size
  · have g1 : (100 : Int) < (an.size : Int) := by omega
    go_enter Try.func4, Try.ntmps4
    go_wp2_with (go_at_call 12; refine (awake31_any _).mono ?_; rintro e w1 ⟨rfl, hx⟩)
    go_ret
    exact ⟨rfl, by (repeat' (first | exact Ext.refl _ | assumption | (apply Ext.after; assumption) | (refine Ext.alloc ?_ _) | (refine Ext.drew ?_) | (refine Ext.drewN ?_ _) | (refine Ext.setCell ?_ ?_ _) | (simp; done) | (simp; omega) | omega))⟩
  · have g1 : ¬ (100 : Int) < (an.size : Int) := by omega
    have g2 : (100 : Int) < (bn.size : Int) := by omega
    go_enter Try.func4, Try.ntmps4
    go_wp2_with (go_at_call 12; refine (awake31_any _).mono ?_; rintro e w1 ⟨rfl, hx⟩)
    go_ret
    exact ⟨rfl, by (repeat' (first | exact Ext.refl _ | assumption | (apply Ext.after; assumption) | (refine Ext.alloc ?_ _) | (refine Ext.drew ?_) | (refine Ext.drewN ?_ _) | (refine Ext.setCell ?_ ?_ _) | (simp; done) | (simp; omega) | omega))⟩

set_option maxRecDepth 100000 in
set_option maxHeartbeats 4000000 in
theorem TC_walk (a b : NoteV) (now : Int) (ha : a.name.size ≤ 100) (hb : b.name.size ≤ 100) (w : World) :
    Calls Try.prog 4 #[a.val, b.val, .int .i64 now] w fun e w' => e = .returned (.bool true) ∧ Ext w w' := by
  obtain ⟨an, ad, ax, ay, au⟩ := a
  obtain ⟨bn, bd, bx, bY, bu⟩ := b
  unfold NoteV.val
  simp only at ha hb
  have g1 : ¬ (100 : Int) < (an.size : Int) := by omega
  have g2 : ¬ (100 : Int) < (bn.size : Int) := by omega
  have hs : an.size ≤ 1000 := by omega
  go_enter Try.func4, Try.ntmps4
  go_wp2_with fail
  refine (New_fresh 3 (by omega) _).mono ?_
  rintro e w1 ⟨tb, rfl, ht, hx1⟩
  go_wp2_with fail
  refine (awake31_any _).mono ?_
  rintro e w2 ⟨rfl, hx2⟩
  have hxA : Ext (w.alloc (.cells #[.string an, .int .i64 ad, .int .i64 ax, .int .i64 ay, .int .i64 au] 38)) w2 := ((Ext.refl _).alloc _).trans (hx1.trans hx2)
  have hxB := hx1.trans hx2
  have hA : w2.heap[w.heap.size]? = some (.cells #[.string an, .int .i64 ad, .int .i64 ax, .int .i64 ay, .int .i64 au] 38 (0, 0)) := by
    rw [Ext.block hxA (by simp)]; exact heap_alloc_new w _
  have hB : w2.heap[w.heap.size + 1]? = some (.cells #[.string bn, .int .i64 bd, .int .i64 bx, .int .i64 bY, .int .i64 bu] 38 (0, 0)) := by
    rw [Ext.block hxB (by simp)]
    have := heap_alloc_new (w.alloc (.cells #[.string an, .int .i64 ad, .int .i64 ax, .int .i64 ay, .int .i64 au] 38)) (.cells #[.string bn, .int .i64 bd, .int .i64 bx, .int .i64 bY, .int .i64 bu] 38)
    simpa using this
  have hxw : Ext w w2 := by (repeat' (first | exact Ext.refl _ | assumption | (apply Ext.after; assumption) | (refine Ext.alloc ?_ _) | (refine Ext.drew ?_) | (refine Ext.drewN ?_ _) | (refine Ext.setCell ?_ ?_ _) | (simp; done) | (simp; omega) | omega))
  have HT := Lib.hid (ht.ext hx2)
  have HXW := Lib.hid hxw
  clear hx1 hx2 hxA hxB ht hxw
  have a0 : w2.cell? ⟨w.heap.size, 0, none⟩ = some (.string an) := by simp [World.cell?, hA]
  have a1 : w2.cell? ⟨w.heap.size, 1, none⟩ = some (.int .i64 ad) := by simp [World.cell?, hA]
  have a2 : w2.cell? ⟨w.heap.size, 2, none⟩ = some (.int .i64 ax) := by simp [World.cell?, hA]
  have a3 : w2.cell? ⟨w.heap.size, 3, none⟩ = some (.int .i64 ay) := by simp [World.cell?, hA]
  have a4 : w2.cell? ⟨w.heap.size, 4, none⟩ = some (.int .i64 au) := by simp [World.cell?, hA]
  have b0 : w2.cell? ⟨w.heap.size + 1, 0, none⟩ = some (.string bn) := by simp [World.cell?, hB]
  have b1 : w2.cell? ⟨w.heap.size + 1, 1, none⟩ = some (.int .i64 bd) := by simp [World.cell?, hB]
  have f0 : w2.frozen? ⟨w.heap.size + 1, 0, none⟩ = false := by simp [World.frozen?, hB]
  have f1 : w2.frozen? ⟨w.heap.size + 1, 1, none⟩ = false := by simp [World.frozen?, hB]
  have hbut : ExtBut (w.heap.size + 1) w2 ((w2.setCell ⟨w.heap.size + 1, 0, none⟩ (.string an)).setCell ⟨w.heap.size + 1, 1, none⟩ (.int .i64 ad)) := ((ExtBut.refl _ _).setCell _ _).setCell _ _
  have hws : w.heap.size + 1 + 1 ≤ w2.heap.size := by
    have := (Array.getElem?_eq_some_iff.1 hB).1; omega
  have h3A : ((w2.setCell ⟨w.heap.size + 1, 0, none⟩ (.string an)).setCell ⟨w.heap.size + 1, 1, none⟩ (.int .i64 ad)).heap[w.heap.size]? = some (.cells #[.string an, .int .i64 ad, .int .i64 ax, .int .i64 ay, .int .i64 au] 38 (0, 0)) := by
    rw [hbut.block _ (by omega) (by omega)]; exact hA
  have h3B : ((w2.setCell ⟨w.heap.size + 1, 0, none⟩ (.string an)).setCell ⟨w.heap.size + 1, 1, none⟩ (.int .i64 ad)).heap[w.heap.size + 1]? = some (.cells #[.string an, .int .i64 ad, .int .i64 bx, .int .i64 bY, .int .i64 bu] 38 (0, 0)) := by
    have e1 := heap_setCell_same w2 (w.heap.size + 1) 0 _ _ (.string an) hB
    have e2 := heap_setCell_same _ (w.heap.size + 1) 1 _ _ (.int .i64 ad) e1
    rw [e2]; rfl
  have hfr := HT.out.but hbut (by simp)
  have hxw3 : Ext w ((w2.setCell ⟨w.heap.size + 1, 0, none⟩ (.string an)).setCell ⟨w.heap.size + 1, 1, none⟩ (.int .i64 ad)) := (ExtS.of_but hbut (Or.inl rfl) : ExtS (fun z => z = w.heap.size + 1) _ _).ext HXW.out (fun b (hb : b = w.heap.size + 1) => by omega)
  have hsz3 : w.heap.size + 1 + 1 ≤ ((w2.setCell ⟨w.heap.size + 1, 0, none⟩ (.string an)).setCell ⟨w.heap.size + 1, 1, none⟩ (.int .i64 ad)).heap.size := Nat.le_trans hws hbut.size
  have HP := Lib.hid (And.intro h3A (And.intro h3B (And.intro hfr (And.intro hxw3 hsz3))))
  clear hbut hws h3A h3B hfr hxw3 hsz3 hA hB HT HXW
  go_wp2_with fail
  revert HP
  generalize (w2.setCell ⟨w.heap.size + 1, 0, none⟩ (.string an)).setCell ⟨w.heap.size + 1, 1, none⟩ (.int .i64 ad) = w3
  intro HP
  have h3A := HP.out.1
  have h3B := HP.out.2.1
  have ht3 := HP.out.2.2.1.inv (by have := HP.out.2.2.2.2; simpa using this)
  have HX3 := Lib.hid HP.out.2.2.2.1
  clear a0 a1 a2 a3 a4 b0 b1 f0 f1 HP
  have HT3 : Hid (TInv (w.heap.size + 1 + 1) w3 w3 tb 0 3 (fun _ _ => none)) := Lib.hid (by simpa using ht3)
  have hfin : Hid (∀ w', Below (w.heap.size + 1 + 1) w3 w' → Ext w w') := Lib.hid (fun w' h => Below.trans (HX3.out : Below w.heap.size w w3) (Below.mono h (by omega)))
  clear ht3
  have a0 : w3.cell? ⟨w.heap.size, 0, none⟩ = some (.string an) := by simp [World.cell?, h3A]
  have a1 : w3.cell? ⟨w.heap.size, 1, none⟩ = some (.int .i64 ad) := by simp [World.cell?, h3A]
  have a2 : w3.cell? ⟨w.heap.size, 2, none⟩ = some (.int .i64 ax) := by simp [World.cell?, h3A]
  have a3 : w3.cell? ⟨w.heap.size, 3, none⟩ = some (.int .i64 ay) := by simp [World.cell?, h3A]
  have a4 : w3.cell? ⟨w.heap.size, 4, none⟩ = some (.int .i64 au) := by simp [World.cell?, h3A]
  have b0 : w3.cell? ⟨w.heap.size + 1, 0, none⟩ = some (.string an) := by simp [World.cell?, h3B]
  have b1 : w3.cell? ⟨w.heap.size + 1, 1, none⟩ = some (.int .i64 ad) := by simp [World.cell?, h3B]
  have b2 : w3.cell? ⟨w.heap.size + 1, 2, none⟩ = some (.int .i64 bx) := by simp [World.cell?, h3B]
  have b3 : w3.cell? ⟨w.heap.size + 1, 3, none⟩ = some (.int .i64 bY) := by simp [World.cell?, h3B]
  have b4 : w3.cell? ⟨w.heap.size + 1, 4, none⟩ = some (.int .i64 bu) := by simp [World.cell?, h3B]
  clear h3A h3B
  by_cases hm : mayB ⟨an, ad, ax, ay, au⟩ 0 = true
  · refine (ann_inv (by omega) ⟨an, ad, ax, ay, au⟩ 0 hm _ HT3.out [] rising_nil (fun k => by simp [nodes_none]) (Or.inr (by decide))).mono ?_
    rintro e w4 ⟨rfl, n4, hn4, ht4⟩
    rw [ann_none] at ht4
    have hlt : ∀ j, (⟨w.heap.size, j, none⟩ : Addr).block < w.heap.size + 1 + 1 := fun j => by (dsimp only; omega)
    have hlt2 : ∀ j, (⟨w.heap.size + 1, j, none⟩ : Addr).block < w.heap.size + 1 + 1 := fun j => by (dsimp only; omega)
    have A0 := ht4.cell (hlt 0) a0
    have A3 := ht4.cell (hlt 4) a4
    have B0 := ht4.cell (hlt2 0) b0
    have B1 := ht4.cell (hlt2 1) b1
    have B2 := ht4.cell (hlt2 2) b2
    have B3 := ht4.cell (hlt2 3) b3
    have B4 := ht4.cell (hlt2 4) b4
    have HT4 := Lib.hid ht4
    have HM := Lib.hid hm
    have K0 := Lib.hid a0
    have K4 := Lib.hid a4
    have L0 := Lib.hid b0
    have L1 := Lib.hid b1
    have L2 := Lib.hid b2
    have L3 := Lib.hid b3
    have L4 := Lib.hid b4
    clear ht4 hm hlt hlt2 a0 a1 a2 a3 a4 b0 b1 b2 b3 b4 HT3
    by_cases hk : tickB now = true
    · obtain ⟨t1, t2⟩ : 0 ≤ now ∧ now ≤ 1099511627776 := by simpa [tickB] using hk
      have t3 : ¬ now < 0 := by omega
      have t4 : ¬ 1099511627776 < now := by omega
      have hpeer : peerB ad = true := by
        have := HM.out; simp [mayB] at this; exact this.1.1.1.2
      by_cases hn : now ≤ au
      · have HNOD : Hid (nodesL (oneT ⟨an, ad, ax, ay, au⟩) an.data.toList now = [⟨an, ad, ax, ay, au⟩]) := Lib.hid (by
          have := nodes_one ⟨an, ad, ax, ay, au⟩ hpeer now
          rw [if_pos ⟨hk, hn⟩] at this; exact this)
        go_wp2_with fail
        go_region_held3 (fun w' => Ext w4 w' ∧ w'.cell? ⟨w.heap.size, 0, none⟩ = some (.string an) ∧ w'.cell? ⟨w.heap.size, 4, none⟩ = some (.int .i64 au))
          ((go_split_ands; refine ⟨?_, ?_, ?_⟩ <;> (first | assumption | (exact hx5.cellAt (by assumption)) | go_keep | ((repeat' (first | exact Ext.refl _ | assumption | (apply Ext.after; assumption) | (refine Ext.alloc ?_ _) | (refine Ext.drew ?_) | (refine Ext.drewN ?_ _) | (refine Ext.setCell ?_ ?_ _) | (simp; done) | (simp; omega) | omega)); done))))
          ((first | (go_at_call 16; refine (Nodes_inv an hs now _ (HT4.out.ext ((Ext.refl _).drew))).mono ?_; rintro e w5 ⟨v, rfl, hv, hx5, ht5⟩; rw [HNOD.out] at hv; obtain ⟨na, nc, rfl⟩ := hv.shape; clear hv ht5)))
        have hx45 : Ext w4 w5 := by (go_split_ands; assumption)
        have HT5 := Lib.hid (HT4.out.ext hx45)
        have A0 := hx45.cellAt A0
        have A3 := hx45.cellAt A3
        have B0 := hx45.cellAt B0
        have B1 := hx45.cellAt B1
        have B2 := hx45.cellAt B2
        have B3 := hx45.cellAt B3
        have B4 := hx45.cellAt B4
        clear hx45 hx5 HT4
        go_wp2_with fail
        have hlt : ∀ j, (⟨w.heap.size, j, none⟩ : Addr).block < w.heap.size + 1 + 1 := fun j => by (dsimp only; omega)
        have hlt2 : ∀ j, (⟨w.heap.size + 1, j, none⟩ : Addr).block < w.heap.size + 1 + 1 := fun j => by (dsimp only; omega)
        obtain ⟨ns, hr, hns, hln⟩ := counts_one ⟨an, ad, ax, ay, au⟩ hpeer now hk
        cases hmb : mayB ⟨an, ad, bx, bY, bu⟩ now with
        | false =>
          refine (ann_inv_no ⟨an, ad, bx, bY, bu⟩ now hmb _ HT5.out).mono ?_
          rintro e w6 ⟨rfl, ht6⟩
          have A0 := ht6.cell (hlt 0) K0.out
          have A4 := ht6.cell (hlt 4) K4.out
          have HT6 := Lib.hid ht6
          clear ht6 HT5 B0 B1 B2 B3 B4 A3
          go_wp2_with fail
          refine (Nodes_inv an hs now _ HT6.out).mono ?_
          rintro e w7 ⟨v, rfl, hv, hx7, ht7⟩
          have A4 := hx7.cellAt A4
          rw [HNOD.out] at hv
          obtain ⟨na7, nc7, rfl⟩ := hv.shape
          have HT7 := Lib.hid ht7
          clear hv hx7 ht7 HT6
          go_wp2
          go_ret
          exact ⟨by first | rfl | (simp [hn]; done), hfin.out _ HT7.out.base⟩
        | true =>
          refine (ann_inv (by omega) ⟨an, ad, bx, bY, bu⟩ now hmb _ HT5.out ns hr hns (Or.inr (by omega))).mono ?_
          rintro e w6 ⟨rfl, n6, hn6, ht6⟩
          rw [ann_one ⟨an, ad, ax, ay, au⟩ ⟨an, ad, bx, bY, bu⟩ now rfl rfl] at ht6
          have A0 := ht6.cell (hlt 0) K0.out
          have HT6 := Lib.hid ht6
          clear ht6 HT5 B0 B1 B2 B3 B4 A3
          have hbm : now ≤ bu ∧ bu ≤ 1099511627776 := by
            have := hmb; simp [mayB] at this; omega
          obtain ⟨hbu1, hbu2⟩ := hbm
          have hno2 := nodes_one ⟨an, ad, bx, bY, bu⟩ hpeer now
          rw [if_pos ⟨hk, hbu1⟩] at hno2
          have hno3 := nodes_one ⟨an, ad, bx, bY, bu⟩ hpeer bu
          rw [if_pos ⟨by simp [tickB]; omega, Int.le_refl _⟩] at hno3
          have hno4 := nodes_one ⟨an, ad, bx, bY, bu⟩ hpeer (bu + 1)
          rw [if_neg (fun h => by have := h.2; simp at this; omega)] at hno4
          have HN2 := Lib.hid hno2
          have HN3 := Lib.hid hno3
          have HN4 := Lib.hid hno4
          clear hno2 hno3 hno4
          go_wp2_with fail
          refine (Nodes_inv an hs now _ HT6.out).mono ?_
          rintro e w7 ⟨v, rfl, hv, hx7, ht7⟩
          have hv2 : NSl w7 v [⟨an, ad, bx, bY, bu⟩] := by have := hv; rw [HN2.out] at this; exact this
          clear hv
          rcases hv2 with ⟨h0, _⟩ | ⟨lb, off, cap, rfl, hc⟩
          · simp at h0
          have A0 := ht7.cell (hlt 0) K0.out
          have B0 := ht7.cell (hlt2 0) L0.out
          have B1 := ht7.cell (hlt2 1) L1.out
          have B2 := ht7.cell (hlt2 2) L2.out
          have B3 := ht7.cell (hlt2 3) L3.out
          have B4 := ht7.cell (hlt2 4) L4.out
          have C0 : w7.cell? ⟨lb, off, none⟩ = some (.string an) := hc 0 _ rfl
          have C1 : w7.cell? ⟨lb, off + 1, none⟩ = some (.int .i64 ad) := hc 1 _ rfl
          have C2 : w7.cell? ⟨lb, off + 2, none⟩ = some (.int .i64 bx) := hc 2 _ rfl
          have C3 : w7.cell? ⟨lb, off + 3, none⟩ = some (.int .i64 bY) := hc 3 _ rfl
          have C4 : w7.cell? ⟨lb, off + 4, none⟩ = some (.int .i64 bu) := hc 4 _ rfl
          have HT7 := Lib.hid ht7
          clear hc hx7 ht7 HT6
          go_wp2_with fail
          have heq := fun w' : World => eq_note an ad bx bY bu w'
          by_cases hmy : bu = 1099511627776
          · subst hmy
            refine wp_region_held_drew (S := fun w' => Ext w7 w' ∧ w'.cell? ⟨w.heap.size, 0, none⟩ = some (.string an) ∧ w'.cell? ⟨w.heap.size + 1, 0, none⟩ = some (.string an) ∧ w'.cell? ⟨w.heap.size + 1, 1, none⟩ = some (.int .i64 ad) ∧ w'.cell? ⟨w.heap.size + 1, 2, none⟩ = some (.int .i64 bx) ∧ w'.cell? ⟨w.heap.size + 1, 3, none⟩ = some (.int .i64 bY) ∧ w'.cell? ⟨w.heap.size + 1, 4, none⟩ = some (.int .i64 1099511627776) ∧ w'.cell? ⟨lb, off, none⟩ = some (.string an) ∧ w'.cell? ⟨lb, off + 1, none⟩ = some (.int .i64 ad) ∧ w'.cell? ⟨lb, off + 2, none⟩ = some (.int .i64 bx) ∧ w'.cell? ⟨lb, off + 3, none⟩ = some (.int .i64 bY) ∧ w'.cell? ⟨lb, off + 4, none⟩ = some (.int .i64 1099511627776)) (by kernel_rfl) ⟨by (repeat' (first | exact Ext.refl _ | assumption | (apply Ext.after; assumption) | (refine Ext.alloc ?_ _) | (refine Ext.drew ?_) | (refine Ext.drewN ?_ _) | (refine Ext.setCell ?_ ?_ _) | (simp; done) | (simp; omega) | omega)), A0, B0, B1, B2, B3, B4, C0, C1, C2, C3, C4⟩ (fun hHeld => ?_)
            clear A0 B0 B1 B2 B3 B4 C0 C1 C2 C3 C4
            refine wpAnyH_take (i := 0) (oi := ?oiA10) (v := ?vA10) ?hiA10 ?hsA10 ?hfA10 ?hrA10 ?hQA10 ?hyA10 (by assumption) ?restA10
            case hiA10 => (simp only [List.getElem?_toArray, List.getElem?_cons_succ, List.getElem?_cons_zero]; rfl)
            case hsA10 => kernel_rfl
            case hfA10 => kernel_rfl
            case hrA10 => kernel_rfl
            case hQA10 => exact fun _ _ _ h => h
            case hyA10 => (refine Or.inl ⟨by kernel_rfl, ?_⟩; intro w hSw; (try dsimp only at hSw); go_simp; try with_reducible rfl)
            try simp only [Act.put, List.setIfInBounds_toArray, List.set_cons_zero, List.set_cons_succ]
            refine wpAnyH_take (i := 1) (oi := ?oiA11) (v := ?vA11) ?hiA11 ?hsA11 ?hfA11 ?hrA11 ?hQA11 ?hyA11 (by assumption) ?restA11
            case hiA11 => (simp only [List.getElem?_toArray, List.getElem?_cons_succ, List.getElem?_cons_zero]; rfl)
            case hsA11 => kernel_rfl
            case hfA11 => kernel_rfl
            case hrA11 => kernel_rfl
            case hQA11 => exact fun _ _ _ h => h
            case hyA11 => (refine Or.inl ⟨by kernel_rfl, ?_⟩; intro w hSw; (try dsimp only at hSw); go_simp; try with_reducible rfl)
            try simp only [Act.put, List.setIfInBounds_toArray, List.set_cons_zero, List.set_cons_succ]
            refine wpAnyH_take (i := 2) (oi := ?oiA12) (v := ?vA12) ?hiA12 ?hsA12 ?hfA12 ?hrA12 ?hQA12 ?hyA12 (by assumption) ?restA12
            case hiA12 => (simp only [List.getElem?_toArray, List.getElem?_cons_succ, List.getElem?_cons_zero]; rfl)
            case hsA12 => kernel_rfl
            case hfA12 => kernel_rfl
            case hrA12 => kernel_rfl
            case hQA12 => exact fun _ _ _ h => h
            case hyA12 => (refine Or.inl ⟨by kernel_rfl, ?_⟩; intro w hSw; (try dsimp only at hSw); go_simp; try with_reducible rfl)
            try simp only [Act.put, List.setIfInBounds_toArray, List.set_cons_zero, List.set_cons_succ]
            refine wpAnyH_take (i := 3) (oi := ?oiA13) (v := ?vA13) ?hiA13 ?hsA13 ?hfA13 ?hrA13 ?hQA13 ?hyA13 (by assumption) ?restA13
            case hiA13 => (simp only [List.getElem?_toArray, List.getElem?_cons_succ, List.getElem?_cons_zero]; rfl)
            case hsA13 => kernel_rfl
            case hfA13 => kernel_rfl
            case hrA13 => kernel_rfl
            case hQA13 => exact fun _ _ _ h => h
            case hyA13 => (refine Or.inl ⟨by kernel_rfl, ?_⟩; intro w hSw; (try dsimp only at hSw); go_simp; try with_reducible rfl)
            try simp only [Act.put, List.setIfInBounds_toArray, List.set_cons_zero, List.set_cons_succ]
            refine wpAnyH_take (i := 4) (oi := ?oiA14) (v := ?vA14) ?hiA14 ?hsA14 ?hfA14 ?hrA14 ?hQA14 ?hyA14 (by assumption) ?restA14
            case hiA14 => (simp only [List.getElem?_toArray, List.getElem?_cons_succ, List.getElem?_cons_zero]; rfl)
            case hsA14 => kernel_rfl
            case hfA14 => kernel_rfl
            case hrA14 => kernel_rfl
            case hQA14 => exact fun _ _ _ h => h
            case hyA14 => (refine Or.inl ⟨by kernel_rfl, ?_⟩; intro w hSw; (try dsimp only at hSw); go_simp; try with_reducible rfl)
            try simp only [Act.put, List.setIfInBounds_toArray, List.set_cons_zero, List.set_cons_succ]
            refine wpAnyH_take (i := 5) (oi := ?oiA15) (v := ?vA15) ?hiA15 ?hsA15 ?hfA15 ?hrA15 ?hQA15 ?hyA15 (by assumption) ?restA15
            case hiA15 => (simp only [List.getElem?_toArray, List.getElem?_cons_succ, List.getElem?_cons_zero]; rfl)
            case hsA15 => kernel_rfl
            case hfA15 => kernel_rfl
            case hrA15 => kernel_rfl
            case hQA15 => exact fun _ _ _ h => h
            case hyA15 => (refine Or.inl ⟨by kernel_rfl, ?_⟩; intro w hSw; (try dsimp only at hSw); go_simp; try with_reducible rfl)
            try simp only [Act.put, List.setIfInBounds_toArray, List.set_cons_zero, List.set_cons_succ]
            refine wpAnyH_take (i := 6) (oi := ?oiA16) (v := ?vA16) ?hiA16 ?hsA16 ?hfA16 ?hrA16 ?hQA16 ?hyA16 (by assumption) ?restA16
            case hiA16 => (simp only [List.getElem?_toArray, List.getElem?_cons_succ, List.getElem?_cons_zero]; rfl)
            case hsA16 => kernel_rfl
            case hfA16 => kernel_rfl
            case hrA16 => kernel_rfl
            case hQA16 => exact fun _ _ _ h => h
            case hyA16 => (refine Or.inl ⟨by kernel_rfl, ?_⟩; intro w hSw; (try dsimp only at hSw); go_simp; try with_reducible rfl)
            try simp only [Act.put, List.setIfInBounds_toArray, List.set_cons_zero, List.set_cons_succ]
            refine wpAnyH_take (i := 7) (oi := ?oiA17) (v := ?vA17) ?hiA17 ?hsA17 ?hfA17 ?hrA17 ?hQA17 ?hyA17 (by assumption) ?restA17
            case hiA17 => (simp only [List.getElem?_toArray, List.getElem?_cons_succ, List.getElem?_cons_zero]; rfl)
            case hsA17 => kernel_rfl
            case hfA17 => kernel_rfl
            case hrA17 => kernel_rfl
            case hQA17 => exact fun _ _ _ h => h
            case hyA17 => (refine Or.inl ⟨by kernel_rfl, ?_⟩; intro w hSw; (try dsimp only at hSw); go_simp; try with_reducible rfl)
            try simp only [Act.put, List.setIfInBounds_toArray, List.set_cons_zero, List.set_cons_succ]
            refine wpAnyH_take (i := 8) (oi := ?oiA18) (v := ?vA18) ?hiA18 ?hsA18 ?hfA18 ?hrA18 ?hQA18 ?hyA18 (by assumption) ?restA18
            case hiA18 => (simp only [List.getElem?_toArray, List.getElem?_cons_succ, List.getElem?_cons_zero]; rfl)
            case hsA18 => kernel_rfl
            case hfA18 => kernel_rfl
            case hrA18 => kernel_rfl
            case hQA18 => exact fun _ _ _ h => h
            case hyA18 => (refine Or.inl ⟨by kernel_rfl, ?_⟩; intro w hSw; (try dsimp only at hSw); go_simp; try with_reducible rfl)
            try simp only [Act.put, List.setIfInBounds_toArray, List.set_cons_zero, List.set_cons_succ]
            refine wpAnyH_take (i := 9) (oi := ?oiA19) (v := ?vA19) ?hiA19 ?hsA19 ?hfA19 ?hrA19 ?hQA19 ?hyA19 (by assumption) ?restA19
            case hiA19 => (simp only [List.getElem?_toArray, List.getElem?_cons_succ, List.getElem?_cons_zero]; rfl)
            case hsA19 => kernel_rfl
            case hfA19 => kernel_rfl
            case hrA19 => kernel_rfl
            case hQA19 => exact fun _ _ _ h => h
            case hyA19 => (refine Or.inl ⟨by kernel_rfl, ?_⟩; intro w hSw; (try dsimp only at hSw); go_simp; try with_reducible rfl)
            try simp only [Act.put, List.setIfInBounds_toArray, List.set_cons_zero, List.set_cons_succ]
            refine wpAnyH_take (i := 10) (oi := ?oiA110) (v := ?vA110) ?hiA110 ?hsA110 ?hfA110 ?hrA110 ?hQA110 ?hyA110 (by assumption) ?restA110
            case hiA110 => (simp only [List.getElem?_toArray, List.getElem?_cons_succ, List.getElem?_cons_zero]; rfl)
            case hsA110 => kernel_rfl
            case hfA110 => kernel_rfl
            case hrA110 => kernel_rfl
            case hQA110 => exact fun _ _ _ h => h
            case hyA110 => (refine Or.inl ⟨by kernel_rfl, ?_⟩; intro w hSw; (try dsimp only at hSw); go_simp; try with_reducible rfl)
            try simp only [Act.put, List.setIfInBounds_toArray, List.set_cons_zero, List.set_cons_succ]
            refine wpAnyH_take (i := 11) (oi := ?oiA111) (v := ?vA111) ?hiA111 ?hsA111 ?hfA111 ?hrA111 ?hQA111 ?hyA111 (by assumption) ?restA111
            case hiA111 => (simp only [List.getElem?_toArray, List.getElem?_cons_succ, List.getElem?_cons_zero]; rfl)
            case hsA111 => kernel_rfl
            case hfA111 => kernel_rfl
            case hrA111 => kernel_rfl
            case hQA111 => exact fun _ _ _ h => h
            case hyA111 => (refine Or.inl ⟨by kernel_rfl, ?_⟩; intro w hSw; (try dsimp only at hSw); go_simp; try with_reducible rfl)
            try simp only [Act.put, List.setIfInBounds_toArray, List.set_cons_zero, List.set_cons_succ]
            refine wpAnyH_take (i := 12) (oi := ?oiA112) (v := ?vA112) ?hiA112 ?hsA112 ?hfA112 ?hrA112 ?hQA112 ?hyA112 (by assumption) ?restA112
            case hiA112 => (simp only [List.getElem?_toArray, List.getElem?_cons_succ, List.getElem?_cons_zero]; rfl)
            case hsA112 => kernel_rfl
            case hfA112 => kernel_rfl
            case hrA112 => kernel_rfl
            case hQA112 => exact fun _ _ _ h => h
            case hyA112 => (refine Or.inl ⟨by kernel_rfl, ?_⟩; intro w hSw; (try dsimp only at hSw); go_simp; try with_reducible rfl)
            try simp only [Act.put, List.setIfInBounds_toArray, List.set_cons_zero, List.set_cons_succ]
            refine wpAnyH_take (i := 13) (oi := ?oiA113) (v := ?vA113) ?hiA113 ?hsA113 ?hfA113 ?hrA113 ?hQA113 ?hyA113 (by assumption) ?restA113
            case hiA113 => (simp only [List.getElem?_toArray, List.getElem?_cons_succ, List.getElem?_cons_zero]; rfl)
            case hsA113 => kernel_rfl
            case hfA113 => kernel_rfl
            case hrA113 => kernel_rfl
            case hQA113 => exact fun _ _ _ h => h
            case hyA113 => (refine Or.inl ⟨by kernel_rfl, ?_⟩; intro w hSw; (try dsimp only at hSw); go_simp; try with_reducible rfl)
            try simp only [Act.put, List.setIfInBounds_toArray, List.set_cons_zero, List.set_cons_succ]
            refine wpAnyH_take (i := 14) (oi := ?oiA114) (v := ?vA114) ?hiA114 ?hsA114 ?hfA114 ?hrA114 ?hQA114 ?hyA114 (by assumption) ?restA114
            case hiA114 => (simp only [List.getElem?_toArray, List.getElem?_cons_succ, List.getElem?_cons_zero]; rfl)
            case hsA114 => kernel_rfl
            case hfA114 => kernel_rfl
            case hrA114 => kernel_rfl
            case hQA114 => exact fun _ _ _ h => h
            case hyA114 => (refine Or.inl ⟨by kernel_rfl, ?_⟩; intro w hSw; (try dsimp only at hSw); go_simp; try with_reducible rfl)
            try simp only [Act.put, List.setIfInBounds_toArray, List.set_cons_zero, List.set_cons_succ]
            refine wpAnyH_take (i := 15) (oi := ?oiA115) (v := ?vA115) ?hiA115 ?hsA115 ?hfA115 ?hrA115 ?hQA115 ?hyA115 (by assumption) ?restA115
            case hiA115 => (simp only [List.getElem?_toArray, List.getElem?_cons_succ, List.getElem?_cons_zero]; rfl)
            case hsA115 => kernel_rfl
            case hfA115 => kernel_rfl
            case hrA115 => kernel_rfl
            case hQA115 => exact fun _ _ _ h => h
            case hyA115 => (refine Or.inl ⟨by kernel_rfl, ?_⟩; intro w hSw; (try dsimp only at hSw); go_simp; try with_reducible rfl)
            try simp only [Act.put, List.setIfInBounds_toArray, List.set_cons_zero, List.set_cons_succ]
            refine wpAnyH_ready (rs := [16]) (by kernel_rfl) (by simp) ?_
            refine AllReadyH.cons rfl (fun K hK => ?_) AllReadyH.nil
            go_simp
            go_at_call 16; have hcall := Nodes_inv an hs (1099511627776) _ (HT7.out.ext hHeld.1); refine hcall.mono ?_; clear hcall; rintro e w8 ⟨v, rfl, hv, hx8, ht8⟩; rw [HN3.out] at hv; obtain ⟨na, nc, rfl⟩ := hv.shape; clear hv ht8
            go_wp2_with fail
            refine hK.out _ _ ⟨hHeld.1.trans hx8, hx8.cellAt hHeld.2.1, hx8.cellAt hHeld.2.2.1, hx8.cellAt hHeld.2.2.2.1, hx8.cellAt hHeld.2.2.2.2.1, hx8.cellAt hHeld.2.2.2.2.2.1, hx8.cellAt hHeld.2.2.2.2.2.2.1, hx8.cellAt hHeld.2.2.2.2.2.2.2.1, hx8.cellAt hHeld.2.2.2.2.2.2.2.2.1, hx8.cellAt hHeld.2.2.2.2.2.2.2.2.2.1, hx8.cellAt hHeld.2.2.2.2.2.2.2.2.2.2.1, hx8.cellAt hHeld.2.2.2.2.2.2.2.2.2.2.2⟩ (fun hHeld => ?_)
            clear hK K
            try simp only [Act.put, List.setIfInBounds_toArray, List.set_cons_zero, List.set_cons_succ]
            refine wpAnyH_take (i := 17) (oi := ?oiA117) (v := ?vA117) ?hiA117 ?hsA117 ?hfA117 ?hrA117 ?hQA117 ?hyA117 (by assumption) ?restA117
            case hiA117 => (simp only [List.getElem?_toArray, List.getElem?_cons_succ, List.getElem?_cons_zero]; rfl)
            case hsA117 => kernel_rfl
            case hfA117 => kernel_rfl
            case hrA117 => kernel_rfl
            case hQA117 => exact fun _ _ _ h => h
            case hyA117 => (refine Or.inl ⟨by kernel_rfl, ?_⟩; intro w hSw; (try dsimp only at hSw); go_simp; try with_reducible rfl)
            try simp only [Act.put, List.setIfInBounds_toArray, List.set_cons_zero, List.set_cons_succ]
            refine wpAnyH_take (i := 18) (oi := ?oiA118) (v := ?vA118) ?hiA118 ?hsA118 ?hfA118 ?hrA118 ?hQA118 ?hyA118 (by assumption) ?restA118
            case hiA118 => (simp only [List.getElem?_toArray, List.getElem?_cons_succ, List.getElem?_cons_zero]; rfl)
            case hsA118 => kernel_rfl
            case hfA118 => kernel_rfl
            case hrA118 => kernel_rfl
            case hQA118 => exact fun _ _ _ h => h
            case hyA118 => (refine Or.inl ⟨by kernel_rfl, ?_⟩; intro w hSw; (try dsimp only at hSw); go_simp; try with_reducible rfl)
            try simp only [Act.put, List.setIfInBounds_toArray, List.set_cons_zero, List.set_cons_succ]
            refine wpAnyH_take (i := 19) (oi := ?oiA119) (v := ?vA119) ?hiA119 ?hsA119 ?hfA119 ?hrA119 ?hQA119 ?hyA119 (by assumption) ?restA119
            case hiA119 => (simp only [List.getElem?_toArray, List.getElem?_cons_succ, List.getElem?_cons_zero]; rfl)
            case hsA119 => kernel_rfl
            case hfA119 => kernel_rfl
            case hrA119 => kernel_rfl
            case hQA119 => exact fun _ _ _ h => h
            case hyA119 => (refine Or.inl ⟨by kernel_rfl, ?_⟩; intro w hSw; (try dsimp only at hSw); go_simp; try with_reducible rfl)
            try simp only [Act.put, List.setIfInBounds_toArray, List.set_cons_zero, List.set_cons_succ]
            refine wpAnyH_take (i := 20) (oi := ?oiA120) (v := ?vA120) ?hiA120 ?hsA120 ?hfA120 ?hrA120 ?hQA120 ?hyA120 (by assumption) ?restA120
            case hiA120 => (simp only [List.getElem?_toArray, List.getElem?_cons_succ, List.getElem?_cons_zero]; rfl)
            case hsA120 => kernel_rfl
            case hfA120 => kernel_rfl
            case hrA120 => kernel_rfl
            case hQA120 => exact fun _ _ _ h => h
            case hyA120 => (refine Or.inl ⟨by kernel_rfl, ?_⟩; intro w hSw; (try dsimp only at hSw); go_simp; try with_reducible rfl)
            try simp only [Act.put, List.setIfInBounds_toArray, List.set_cons_zero, List.set_cons_succ]
            refine wpAnyH_take (i := 21) (oi := ?oiA121) (v := ?vA121) ?hiA121 ?hsA121 ?hfA121 ?hrA121 ?hQA121 ?hyA121 (by assumption) ?restA121
            case hiA121 => (simp only [List.getElem?_toArray, List.getElem?_cons_succ, List.getElem?_cons_zero]; rfl)
            case hsA121 => kernel_rfl
            case hfA121 => kernel_rfl
            case hrA121 => kernel_rfl
            case hQA121 => exact fun _ _ _ h => h
            case hyA121 => (refine Or.inl ⟨by kernel_rfl, ?_⟩; intro w hSw; (try dsimp only at hSw); go_simp; try with_reducible rfl)
            try simp only [Act.put, List.setIfInBounds_toArray, List.set_cons_zero, List.set_cons_succ]
            refine wpAnyH_take (i := 22) (oi := ?oiA122) (v := ?vA122) ?hiA122 ?hsA122 ?hfA122 ?hrA122 ?hQA122 ?hyA122 (by assumption) ?restA122
            case hiA122 => (simp only [List.getElem?_toArray, List.getElem?_cons_succ, List.getElem?_cons_zero]; rfl)
            case hsA122 => kernel_rfl
            case hfA122 => kernel_rfl
            case hrA122 => kernel_rfl
            case hQA122 => exact fun _ _ _ h => h
            case hyA122 => (refine Or.inl ⟨by kernel_rfl, ?_⟩; intro w hSw; (try dsimp only at hSw); go_simp; try with_reducible rfl)
            try simp only [Act.put, List.setIfInBounds_toArray, List.set_cons_zero, List.set_cons_succ]
            refine wpAnyH_take (i := 23) (oi := ?oiA123) (v := ?vA123) ?hiA123 ?hsA123 ?hfA123 ?hrA123 ?hQA123 ?hyA123 (by assumption) ?restA123
            case hiA123 => (simp only [List.getElem?_toArray, List.getElem?_cons_succ, List.getElem?_cons_zero]; rfl)
            case hsA123 => kernel_rfl
            case hfA123 => kernel_rfl
            case hrA123 => kernel_rfl
            case hQA123 => exact fun _ _ _ h => h
            case hyA123 => (refine Or.inl ⟨by kernel_rfl, ?_⟩; intro w hSw; (try dsimp only at hSw); go_simp; try with_reducible rfl)
            try simp only [Act.put, List.setIfInBounds_toArray, List.set_cons_zero, List.set_cons_succ]
            refine wpAnyH_take (i := 24) (oi := ?oiA124) (v := ?vA124) ?hiA124 ?hsA124 ?hfA124 ?hrA124 ?hQA124 ?hyA124 (by assumption) ?restA124
            case hiA124 => (simp only [List.getElem?_toArray, List.getElem?_cons_succ, List.getElem?_cons_zero]; rfl)
            case hsA124 => kernel_rfl
            case hfA124 => kernel_rfl
            case hrA124 => kernel_rfl
            case hQA124 => exact fun _ _ _ h => h
            case hyA124 => (refine Or.inl ⟨by kernel_rfl, ?_⟩; intro w hSw; (try dsimp only at hSw); go_simp; try with_reducible rfl)
            try simp only [Act.put, List.setIfInBounds_toArray, List.set_cons_zero, List.set_cons_succ]
            refine wpAnyH_take (i := 25) (oi := ?oiA125) (v := undef) ?hiA125 ?hsA125 ?hfA125 ?hrA125 ?hQA125 ?hyA125 (by assumption) ?restA125
            case hiA125 => (simp only [List.getElem?_toArray, List.getElem?_cons_succ, List.getElem?_cons_zero]; rfl)
            case hsA125 => kernel_rfl
            case hfA125 => kernel_rfl
            case hrA125 => kernel_rfl
            case hQA125 => exact fun _ _ _ h => h
            case hyA125 => exact Or.inr ⟨by kernel_rfl, rfl⟩
            try simp only [Act.put, List.setIfInBounds_toArray, List.set_cons_zero, List.set_cons_succ]
            refine wpAnyH_take (i := 26) (oi := ?oiA126) (v := undef) ?hiA126 ?hsA126 ?hfA126 ?hrA126 ?hQA126 ?hyA126 (by assumption) ?restA126
            case hiA126 => (simp only [List.getElem?_toArray, List.getElem?_cons_succ, List.getElem?_cons_zero]; rfl)
            case hsA126 => kernel_rfl
            case hfA126 => kernel_rfl
            case hrA126 => kernel_rfl
            case hQA126 => exact fun _ _ _ h => h
            case hyA126 => exact Or.inr ⟨by kernel_rfl, rfl⟩
            try simp only [Act.put, List.setIfInBounds_toArray, List.set_cons_zero, List.set_cons_succ]
            refine wpAnyH_take (i := 27) (oi := ?oiA127) (v := undef) ?hiA127 ?hsA127 ?hfA127 ?hrA127 ?hQA127 ?hyA127 (by assumption) ?restA127
            case hiA127 => (simp only [List.getElem?_toArray, List.getElem?_cons_succ, List.getElem?_cons_zero]; rfl)
            case hsA127 => kernel_rfl
            case hfA127 => kernel_rfl
            case hrA127 => kernel_rfl
            case hQA127 => exact fun _ _ _ h => h
            case hyA127 => exact Or.inr ⟨by kernel_rfl, rfl⟩
            try simp only [Act.put, List.setIfInBounds_toArray, List.set_cons_zero, List.set_cons_succ]
            refine wpAnyH_take (i := 28) (oi := ?oiA128) (v := undef) ?hiA128 ?hsA128 ?hfA128 ?hrA128 ?hQA128 ?hyA128 (by assumption) ?restA128
            case hiA128 => (simp only [List.getElem?_toArray, List.getElem?_cons_succ, List.getElem?_cons_zero]; rfl)
            case hsA128 => kernel_rfl
            case hfA128 => kernel_rfl
            case hrA128 => kernel_rfl
            case hQA128 => exact fun _ _ _ h => h
            case hyA128 => exact Or.inr ⟨by kernel_rfl, rfl⟩
            try simp only [Act.put, List.setIfInBounds_toArray, List.set_cons_zero, List.set_cons_succ]
            refine wpAnyH_take (i := 29) (oi := ?oiA129) (v := undef) ?hiA129 ?hsA129 ?hfA129 ?hrA129 ?hQA129 ?hyA129 (by assumption) ?restA129
            case hiA129 => (simp only [List.getElem?_toArray, List.getElem?_cons_succ, List.getElem?_cons_zero]; rfl)
            case hsA129 => kernel_rfl
            case hfA129 => kernel_rfl
            case hrA129 => kernel_rfl
            case hQA129 => exact fun _ _ _ h => h
            case hyA129 => exact Or.inr ⟨by kernel_rfl, rfl⟩
            try simp only [Act.put, List.setIfInBounds_toArray, List.set_cons_zero, List.set_cons_succ]
            refine wpAnyH_take (i := 30) (oi := ?oiA130) (v := undef) ?hiA130 ?hsA130 ?hfA130 ?hrA130 ?hQA130 ?hyA130 (by assumption) ?restA130
            case hiA130 => (simp only [List.getElem?_toArray, List.getElem?_cons_succ, List.getElem?_cons_zero]; rfl)
            case hsA130 => kernel_rfl
            case hfA130 => kernel_rfl
            case hrA130 => kernel_rfl
            case hQA130 => exact fun _ _ _ h => h
            case hyA130 => exact Or.inr ⟨by kernel_rfl, rfl⟩
            try simp only [Act.put, List.setIfInBounds_toArray, List.set_cons_zero, List.set_cons_succ]
            refine wpAnyH_take (i := 31) (oi := ?oiA131) (v := undef) ?hiA131 ?hsA131 ?hfA131 ?hrA131 ?hQA131 ?hyA131 (by assumption) ?restA131
            case hiA131 => (simp only [List.getElem?_toArray, List.getElem?_cons_succ, List.getElem?_cons_zero]; rfl)
            case hsA131 => kernel_rfl
            case hfA131 => kernel_rfl
            case hrA131 => kernel_rfl
            case hQA131 => exact fun _ _ _ h => h
            case hyA131 => exact Or.inr ⟨by kernel_rfl, rfl⟩
            try simp only [Act.put, List.setIfInBounds_toArray, List.set_cons_zero, List.set_cons_succ]
            refine wpAnyH_take (i := 32) (oi := ?oiA132) (v := undef) ?hiA132 ?hsA132 ?hfA132 ?hrA132 ?hQA132 ?hyA132 (by assumption) ?restA132
            case hiA132 => (simp only [List.getElem?_toArray, List.getElem?_cons_succ, List.getElem?_cons_zero]; rfl)
            case hsA132 => kernel_rfl
            case hfA132 => kernel_rfl
            case hrA132 => kernel_rfl
            case hQA132 => exact fun _ _ _ h => h
            case hyA132 => exact Or.inr ⟨by kernel_rfl, rfl⟩
            try simp only [Act.put, List.setIfInBounds_toArray, List.set_cons_zero, List.set_cons_succ]
            refine wpAnyH_take (i := 33) (oi := ?oiA133) (v := undef) ?hiA133 ?hsA133 ?hfA133 ?hrA133 ?hQA133 ?hyA133 (by assumption) ?restA133
            case hiA133 => (simp only [List.getElem?_toArray, List.getElem?_cons_succ, List.getElem?_cons_zero]; rfl)
            case hsA133 => kernel_rfl
            case hfA133 => kernel_rfl
            case hrA133 => kernel_rfl
            case hQA133 => exact fun _ _ _ h => h
            case hyA133 => exact Or.inr ⟨by kernel_rfl, rfl⟩
            try simp only [Act.put, List.setIfInBounds_toArray, List.set_cons_zero, List.set_cons_succ]
            refine wpAnyH_take (i := 34) (oi := ?oiA134) (v := ?vA134) ?hiA134 ?hsA134 ?hfA134 ?hrA134 ?hQA134 ?hyA134 (by assumption) ?restA134
            case hiA134 => (simp only [List.getElem?_toArray, List.getElem?_cons_succ, List.getElem?_cons_zero]; rfl)
            case hsA134 => kernel_rfl
            case hfA134 => kernel_rfl
            case hrA134 => kernel_rfl
            case hQA134 => exact fun _ _ _ h => h
            case hyA134 => (refine Or.inl ⟨by kernel_rfl, ?_⟩; intro w hSw; (try dsimp only at hSw); go_simp; try with_reducible rfl)
            try simp only [Act.put, List.setIfInBounds_toArray, List.set_cons_zero, List.set_cons_succ]
            refine wpAnyH_take (i := 35) (oi := ?oiA135) (v := ?vA135) ?hiA135 ?hsA135 ?hfA135 ?hrA135 ?hQA135 ?hyA135 (by assumption) ?restA135
            case hiA135 => (simp only [List.getElem?_toArray, List.getElem?_cons_succ, List.getElem?_cons_zero]; rfl)
            case hsA135 => kernel_rfl
            case hfA135 => kernel_rfl
            case hrA135 => kernel_rfl
            case hQA135 => exact fun _ _ _ h => h
            case hyA135 => (refine Or.inl ⟨by kernel_rfl, ?_⟩; intro w hSw; (try dsimp only at hSw); go_simp; try with_reducible rfl)
            try simp only [Act.put, List.setIfInBounds_toArray, List.set_cons_zero, List.set_cons_succ]
            refine wpAnyH_take (i := 36) (oi := ?oiA136) (v := ?vA136) ?hiA136 ?hsA136 ?hfA136 ?hrA136 ?hQA136 ?hyA136 (by assumption) ?restA136
            case hiA136 => (simp only [List.getElem?_toArray, List.getElem?_cons_succ, List.getElem?_cons_zero]; rfl)
            case hsA136 => kernel_rfl
            case hfA136 => kernel_rfl
            case hrA136 => kernel_rfl
            case hQA136 => exact fun _ _ _ h => h
            case hyA136 => (refine Or.inl ⟨by kernel_rfl, ?_⟩; intro w hSw; (try dsimp only at hSw); go_simp; try with_reducible rfl)
            try simp only [Act.put, List.setIfInBounds_toArray, List.set_cons_zero, List.set_cons_succ]
            refine wpAnyH_done (by kernel_rfl) ?_ _
            have hxe := HT7.out.ext hHeld.1
            go_wp2
            go_ret
            exact ⟨rfl, hfin.out _ hxe.base⟩
          · have hme : (bu == 1099511627776) = false := by simpa using hmy
            have hmd : decide (bu = 1099511627776) = false := decide_eq_false hmy
            have hwr : IntKind.i64.wrap (bu + 1) = bu + 1 := IntWalk.i64_in _ (by omega)
            refine wp_region_held_drew (S := fun w' => Ext w7 w' ∧ w'.cell? ⟨w.heap.size, 0, none⟩ = some (.string an) ∧ w'.cell? ⟨w.heap.size + 1, 0, none⟩ = some (.string an) ∧ w'.cell? ⟨w.heap.size + 1, 1, none⟩ = some (.int .i64 ad) ∧ w'.cell? ⟨w.heap.size + 1, 2, none⟩ = some (.int .i64 bx) ∧ w'.cell? ⟨w.heap.size + 1, 3, none⟩ = some (.int .i64 bY) ∧ w'.cell? ⟨w.heap.size + 1, 4, none⟩ = some (.int .i64 bu) ∧ w'.cell? ⟨lb, off, none⟩ = some (.string an) ∧ w'.cell? ⟨lb, off + 1, none⟩ = some (.int .i64 ad) ∧ w'.cell? ⟨lb, off + 2, none⟩ = some (.int .i64 bx) ∧ w'.cell? ⟨lb, off + 3, none⟩ = some (.int .i64 bY) ∧ w'.cell? ⟨lb, off + 4, none⟩ = some (.int .i64 bu)) (by kernel_rfl) ⟨by (repeat' (first | exact Ext.refl _ | assumption | (apply Ext.after; assumption) | (refine Ext.alloc ?_ _) | (refine Ext.drew ?_) | (refine Ext.drewN ?_ _) | (refine Ext.setCell ?_ ?_ _) | (simp; done) | (simp; omega) | omega)), A0, B0, B1, B2, B3, B4, C0, C1, C2, C3, C4⟩ (fun hHeld => ?_)
            clear A0 B0 B1 B2 B3 B4 C0 C1 C2 C3 C4
            refine wpAnyH_take (i := 0) (oi := ?oiB10) (v := ?vB10) ?hiB10 ?hsB10 ?hfB10 ?hrB10 ?hQB10 ?hyB10 (by assumption) ?restB10
            case hiB10 => (simp only [List.getElem?_toArray, List.getElem?_cons_succ, List.getElem?_cons_zero]; rfl)
            case hsB10 => kernel_rfl
            case hfB10 => kernel_rfl
            case hrB10 => kernel_rfl
            case hQB10 => exact fun _ _ _ h => h
            case hyB10 => (refine Or.inl ⟨by kernel_rfl, ?_⟩; intro w hSw; (try dsimp only at hSw); go_simp; try with_reducible rfl)
            try simp only [Act.put, List.setIfInBounds_toArray, List.set_cons_zero, List.set_cons_succ]
            refine wpAnyH_take (i := 1) (oi := ?oiB11) (v := ?vB11) ?hiB11 ?hsB11 ?hfB11 ?hrB11 ?hQB11 ?hyB11 (by assumption) ?restB11
            case hiB11 => (simp only [List.getElem?_toArray, List.getElem?_cons_succ, List.getElem?_cons_zero]; rfl)
            case hsB11 => kernel_rfl
            case hfB11 => kernel_rfl
            case hrB11 => kernel_rfl
            case hQB11 => exact fun _ _ _ h => h
            case hyB11 => (refine Or.inl ⟨by kernel_rfl, ?_⟩; intro w hSw; (try dsimp only at hSw); go_simp; try with_reducible rfl)
            try simp only [Act.put, List.setIfInBounds_toArray, List.set_cons_zero, List.set_cons_succ]
            refine wpAnyH_take (i := 2) (oi := ?oiB12) (v := ?vB12) ?hiB12 ?hsB12 ?hfB12 ?hrB12 ?hQB12 ?hyB12 (by assumption) ?restB12
            case hiB12 => (simp only [List.getElem?_toArray, List.getElem?_cons_succ, List.getElem?_cons_zero]; rfl)
            case hsB12 => kernel_rfl
            case hfB12 => kernel_rfl
            case hrB12 => kernel_rfl
            case hQB12 => exact fun _ _ _ h => h
            case hyB12 => (refine Or.inl ⟨by kernel_rfl, ?_⟩; intro w hSw; (try dsimp only at hSw); go_simp; try with_reducible rfl)
            try simp only [Act.put, List.setIfInBounds_toArray, List.set_cons_zero, List.set_cons_succ]
            refine wpAnyH_take (i := 3) (oi := ?oiB13) (v := ?vB13) ?hiB13 ?hsB13 ?hfB13 ?hrB13 ?hQB13 ?hyB13 (by assumption) ?restB13
            case hiB13 => (simp only [List.getElem?_toArray, List.getElem?_cons_succ, List.getElem?_cons_zero]; rfl)
            case hsB13 => kernel_rfl
            case hfB13 => kernel_rfl
            case hrB13 => kernel_rfl
            case hQB13 => exact fun _ _ _ h => h
            case hyB13 => (refine Or.inl ⟨by kernel_rfl, ?_⟩; intro w hSw; (try dsimp only at hSw); go_simp; try with_reducible rfl)
            try simp only [Act.put, List.setIfInBounds_toArray, List.set_cons_zero, List.set_cons_succ]
            refine wpAnyH_take (i := 4) (oi := ?oiB14) (v := ?vB14) ?hiB14 ?hsB14 ?hfB14 ?hrB14 ?hQB14 ?hyB14 (by assumption) ?restB14
            case hiB14 => (simp only [List.getElem?_toArray, List.getElem?_cons_succ, List.getElem?_cons_zero]; rfl)
            case hsB14 => kernel_rfl
            case hfB14 => kernel_rfl
            case hrB14 => kernel_rfl
            case hQB14 => exact fun _ _ _ h => h
            case hyB14 => (refine Or.inl ⟨by kernel_rfl, ?_⟩; intro w hSw; (try dsimp only at hSw); go_simp; try with_reducible rfl)
            try simp only [Act.put, List.setIfInBounds_toArray, List.set_cons_zero, List.set_cons_succ]
            refine wpAnyH_take (i := 5) (oi := ?oiB15) (v := ?vB15) ?hiB15 ?hsB15 ?hfB15 ?hrB15 ?hQB15 ?hyB15 (by assumption) ?restB15
            case hiB15 => (simp only [List.getElem?_toArray, List.getElem?_cons_succ, List.getElem?_cons_zero]; rfl)
            case hsB15 => kernel_rfl
            case hfB15 => kernel_rfl
            case hrB15 => kernel_rfl
            case hQB15 => exact fun _ _ _ h => h
            case hyB15 => (refine Or.inl ⟨by kernel_rfl, ?_⟩; intro w hSw; (try dsimp only at hSw); go_simp; try with_reducible rfl)
            try simp only [Act.put, List.setIfInBounds_toArray, List.set_cons_zero, List.set_cons_succ]
            refine wpAnyH_take (i := 6) (oi := ?oiB16) (v := ?vB16) ?hiB16 ?hsB16 ?hfB16 ?hrB16 ?hQB16 ?hyB16 (by assumption) ?restB16
            case hiB16 => (simp only [List.getElem?_toArray, List.getElem?_cons_succ, List.getElem?_cons_zero]; rfl)
            case hsB16 => kernel_rfl
            case hfB16 => kernel_rfl
            case hrB16 => kernel_rfl
            case hQB16 => exact fun _ _ _ h => h
            case hyB16 => (refine Or.inl ⟨by kernel_rfl, ?_⟩; intro w hSw; (try dsimp only at hSw); go_simp; try with_reducible rfl)
            try simp only [Act.put, List.setIfInBounds_toArray, List.set_cons_zero, List.set_cons_succ]
            refine wpAnyH_take (i := 7) (oi := ?oiB17) (v := ?vB17) ?hiB17 ?hsB17 ?hfB17 ?hrB17 ?hQB17 ?hyB17 (by assumption) ?restB17
            case hiB17 => (simp only [List.getElem?_toArray, List.getElem?_cons_succ, List.getElem?_cons_zero]; rfl)
            case hsB17 => kernel_rfl
            case hfB17 => kernel_rfl
            case hrB17 => kernel_rfl
            case hQB17 => exact fun _ _ _ h => h
            case hyB17 => (refine Or.inl ⟨by kernel_rfl, ?_⟩; intro w hSw; (try dsimp only at hSw); go_simp; try with_reducible rfl)
            try simp only [Act.put, List.setIfInBounds_toArray, List.set_cons_zero, List.set_cons_succ]
            refine wpAnyH_take (i := 8) (oi := ?oiB18) (v := ?vB18) ?hiB18 ?hsB18 ?hfB18 ?hrB18 ?hQB18 ?hyB18 (by assumption) ?restB18
            case hiB18 => (simp only [List.getElem?_toArray, List.getElem?_cons_succ, List.getElem?_cons_zero]; rfl)
            case hsB18 => kernel_rfl
            case hfB18 => kernel_rfl
            case hrB18 => kernel_rfl
            case hQB18 => exact fun _ _ _ h => h
            case hyB18 => (refine Or.inl ⟨by kernel_rfl, ?_⟩; intro w hSw; (try dsimp only at hSw); go_simp; try with_reducible rfl)
            try simp only [Act.put, List.setIfInBounds_toArray, List.set_cons_zero, List.set_cons_succ]
            refine wpAnyH_take (i := 9) (oi := ?oiB19) (v := ?vB19) ?hiB19 ?hsB19 ?hfB19 ?hrB19 ?hQB19 ?hyB19 (by assumption) ?restB19
            case hiB19 => (simp only [List.getElem?_toArray, List.getElem?_cons_succ, List.getElem?_cons_zero]; rfl)
            case hsB19 => kernel_rfl
            case hfB19 => kernel_rfl
            case hrB19 => kernel_rfl
            case hQB19 => exact fun _ _ _ h => h
            case hyB19 => (refine Or.inl ⟨by kernel_rfl, ?_⟩; intro w hSw; (try dsimp only at hSw); go_simp; try with_reducible rfl)
            try simp only [Act.put, List.setIfInBounds_toArray, List.set_cons_zero, List.set_cons_succ]
            refine wpAnyH_take (i := 10) (oi := ?oiB110) (v := ?vB110) ?hiB110 ?hsB110 ?hfB110 ?hrB110 ?hQB110 ?hyB110 (by assumption) ?restB110
            case hiB110 => (simp only [List.getElem?_toArray, List.getElem?_cons_succ, List.getElem?_cons_zero]; rfl)
            case hsB110 => kernel_rfl
            case hfB110 => kernel_rfl
            case hrB110 => kernel_rfl
            case hQB110 => exact fun _ _ _ h => h
            case hyB110 => (refine Or.inl ⟨by kernel_rfl, ?_⟩; intro w hSw; (try dsimp only at hSw); go_simp; try with_reducible rfl)
            try simp only [Act.put, List.setIfInBounds_toArray, List.set_cons_zero, List.set_cons_succ]
            refine wpAnyH_take (i := 11) (oi := ?oiB111) (v := ?vB111) ?hiB111 ?hsB111 ?hfB111 ?hrB111 ?hQB111 ?hyB111 (by assumption) ?restB111
            case hiB111 => (simp only [List.getElem?_toArray, List.getElem?_cons_succ, List.getElem?_cons_zero]; rfl)
            case hsB111 => kernel_rfl
            case hfB111 => kernel_rfl
            case hrB111 => kernel_rfl
            case hQB111 => exact fun _ _ _ h => h
            case hyB111 => (refine Or.inl ⟨by kernel_rfl, ?_⟩; intro w hSw; (try dsimp only at hSw); go_simp; try with_reducible rfl)
            try simp only [Act.put, List.setIfInBounds_toArray, List.set_cons_zero, List.set_cons_succ]
            refine wpAnyH_take (i := 12) (oi := ?oiB112) (v := ?vB112) ?hiB112 ?hsB112 ?hfB112 ?hrB112 ?hQB112 ?hyB112 (by assumption) ?restB112
            case hiB112 => (simp only [List.getElem?_toArray, List.getElem?_cons_succ, List.getElem?_cons_zero]; rfl)
            case hsB112 => kernel_rfl
            case hfB112 => kernel_rfl
            case hrB112 => kernel_rfl
            case hQB112 => exact fun _ _ _ h => h
            case hyB112 => (refine Or.inl ⟨by kernel_rfl, ?_⟩; intro w hSw; (try dsimp only at hSw); go_simp; try with_reducible rfl)
            try simp only [Act.put, List.setIfInBounds_toArray, List.set_cons_zero, List.set_cons_succ]
            refine wpAnyH_take (i := 13) (oi := ?oiB113) (v := ?vB113) ?hiB113 ?hsB113 ?hfB113 ?hrB113 ?hQB113 ?hyB113 (by assumption) ?restB113
            case hiB113 => (simp only [List.getElem?_toArray, List.getElem?_cons_succ, List.getElem?_cons_zero]; rfl)
            case hsB113 => kernel_rfl
            case hfB113 => kernel_rfl
            case hrB113 => kernel_rfl
            case hQB113 => exact fun _ _ _ h => h
            case hyB113 => (refine Or.inl ⟨by kernel_rfl, ?_⟩; intro w hSw; (try dsimp only at hSw); go_simp; try with_reducible rfl)
            try simp only [Act.put, List.setIfInBounds_toArray, List.set_cons_zero, List.set_cons_succ]
            refine wpAnyH_take (i := 14) (oi := ?oiB114) (v := ?vB114) ?hiB114 ?hsB114 ?hfB114 ?hrB114 ?hQB114 ?hyB114 (by assumption) ?restB114
            case hiB114 => (simp only [List.getElem?_toArray, List.getElem?_cons_succ, List.getElem?_cons_zero]; rfl)
            case hsB114 => kernel_rfl
            case hfB114 => kernel_rfl
            case hrB114 => kernel_rfl
            case hQB114 => exact fun _ _ _ h => h
            case hyB114 => (refine Or.inl ⟨by kernel_rfl, ?_⟩; intro w hSw; (try dsimp only at hSw); go_simp; try with_reducible rfl)
            try simp only [Act.put, List.setIfInBounds_toArray, List.set_cons_zero, List.set_cons_succ]
            refine wpAnyH_take (i := 15) (oi := ?oiB115) (v := ?vB115) ?hiB115 ?hsB115 ?hfB115 ?hrB115 ?hQB115 ?hyB115 (by assumption) ?restB115
            case hiB115 => (simp only [List.getElem?_toArray, List.getElem?_cons_succ, List.getElem?_cons_zero]; rfl)
            case hsB115 => kernel_rfl
            case hfB115 => kernel_rfl
            case hrB115 => kernel_rfl
            case hQB115 => exact fun _ _ _ h => h
            case hyB115 => (refine Or.inl ⟨by kernel_rfl, ?_⟩; intro w hSw; (try dsimp only at hSw); go_simp; try with_reducible rfl)
            try simp only [Act.put, List.setIfInBounds_toArray, List.set_cons_zero, List.set_cons_succ]
            refine wpAnyH_ready (rs := [16]) (by kernel_rfl) (by simp) ?_
            refine AllReadyH.cons rfl (fun K hK => ?_) AllReadyH.nil
            go_simp
            go_at_call 16; have hcall := Nodes_inv an hs (bu) _ (HT7.out.ext hHeld.1); refine hcall.mono ?_; clear hcall; rintro e w8 ⟨v, rfl, hv, hx8, ht8⟩; rw [HN3.out] at hv; obtain ⟨na, nc, rfl⟩ := hv.shape; clear hv ht8
            go_wp2_with fail
            refine hK.out _ _ ⟨hHeld.1.trans hx8, hx8.cellAt hHeld.2.1, hx8.cellAt hHeld.2.2.1, hx8.cellAt hHeld.2.2.2.1, hx8.cellAt hHeld.2.2.2.2.1, hx8.cellAt hHeld.2.2.2.2.2.1, hx8.cellAt hHeld.2.2.2.2.2.2.1, hx8.cellAt hHeld.2.2.2.2.2.2.2.1, hx8.cellAt hHeld.2.2.2.2.2.2.2.2.1, hx8.cellAt hHeld.2.2.2.2.2.2.2.2.2.1, hx8.cellAt hHeld.2.2.2.2.2.2.2.2.2.2.1, hx8.cellAt hHeld.2.2.2.2.2.2.2.2.2.2.2⟩ (fun hHeld => ?_)
            clear hK K
            try simp only [Act.put, List.setIfInBounds_toArray, List.set_cons_zero, List.set_cons_succ]
            refine wpAnyH_take (i := 17) (oi := ?oiB117) (v := ?vB117) ?hiB117 ?hsB117 ?hfB117 ?hrB117 ?hQB117 ?hyB117 (by assumption) ?restB117
            case hiB117 => (simp only [List.getElem?_toArray, List.getElem?_cons_succ, List.getElem?_cons_zero]; rfl)
            case hsB117 => kernel_rfl
            case hfB117 => kernel_rfl
            case hrB117 => kernel_rfl
            case hQB117 => exact fun _ _ _ h => h
            case hyB117 => (refine Or.inl ⟨by kernel_rfl, ?_⟩; intro w hSw; (try dsimp only at hSw); go_simp; try with_reducible rfl)
            try simp only [Act.put, List.setIfInBounds_toArray, List.set_cons_zero, List.set_cons_succ]
            refine wpAnyH_take (i := 18) (oi := ?oiB118) (v := ?vB118) ?hiB118 ?hsB118 ?hfB118 ?hrB118 ?hQB118 ?hyB118 (by assumption) ?restB118
            case hiB118 => (simp only [List.getElem?_toArray, List.getElem?_cons_succ, List.getElem?_cons_zero]; rfl)
            case hsB118 => kernel_rfl
            case hfB118 => kernel_rfl
            case hrB118 => kernel_rfl
            case hQB118 => exact fun _ _ _ h => h
            case hyB118 => (refine Or.inl ⟨by kernel_rfl, ?_⟩; intro w hSw; (try dsimp only at hSw); go_simp; try with_reducible rfl)
            try simp only [Act.put, List.setIfInBounds_toArray, List.set_cons_zero, List.set_cons_succ]
            refine wpAnyH_take (i := 19) (oi := ?oiB119) (v := ?vB119) ?hiB119 ?hsB119 ?hfB119 ?hrB119 ?hQB119 ?hyB119 (by assumption) ?restB119
            case hiB119 => (simp only [List.getElem?_toArray, List.getElem?_cons_succ, List.getElem?_cons_zero]; rfl)
            case hsB119 => kernel_rfl
            case hfB119 => kernel_rfl
            case hrB119 => kernel_rfl
            case hQB119 => exact fun _ _ _ h => h
            case hyB119 => (refine Or.inl ⟨by kernel_rfl, ?_⟩; intro w hSw; (try dsimp only at hSw); go_simp; try with_reducible rfl)
            try simp only [Act.put, List.setIfInBounds_toArray, List.set_cons_zero, List.set_cons_succ]
            refine wpAnyH_take (i := 20) (oi := ?oiB120) (v := ?vB120) ?hiB120 ?hsB120 ?hfB120 ?hrB120 ?hQB120 ?hyB120 (by assumption) ?restB120
            case hiB120 => (simp only [List.getElem?_toArray, List.getElem?_cons_succ, List.getElem?_cons_zero]; rfl)
            case hsB120 => kernel_rfl
            case hfB120 => kernel_rfl
            case hrB120 => kernel_rfl
            case hQB120 => exact fun _ _ _ h => h
            case hyB120 => (refine Or.inl ⟨by kernel_rfl, ?_⟩; intro w hSw; (try dsimp only at hSw); go_simp; try with_reducible rfl)
            try simp only [Act.put, List.setIfInBounds_toArray, List.set_cons_zero, List.set_cons_succ]
            refine wpAnyH_take (i := 21) (oi := ?oiB121) (v := ?vB121) ?hiB121 ?hsB121 ?hfB121 ?hrB121 ?hQB121 ?hyB121 (by assumption) ?restB121
            case hiB121 => (simp only [List.getElem?_toArray, List.getElem?_cons_succ, List.getElem?_cons_zero]; rfl)
            case hsB121 => kernel_rfl
            case hfB121 => kernel_rfl
            case hrB121 => kernel_rfl
            case hQB121 => exact fun _ _ _ h => h
            case hyB121 => (refine Or.inl ⟨by kernel_rfl, ?_⟩; intro w hSw; (try dsimp only at hSw); go_simp; try with_reducible rfl)
            try simp only [Act.put, List.setIfInBounds_toArray, List.set_cons_zero, List.set_cons_succ]
            refine wpAnyH_take (i := 22) (oi := ?oiB122) (v := ?vB122) ?hiB122 ?hsB122 ?hfB122 ?hrB122 ?hQB122 ?hyB122 (by assumption) ?restB122
            case hiB122 => (simp only [List.getElem?_toArray, List.getElem?_cons_succ, List.getElem?_cons_zero]; rfl)
            case hsB122 => kernel_rfl
            case hfB122 => kernel_rfl
            case hrB122 => kernel_rfl
            case hQB122 => exact fun _ _ _ h => h
            case hyB122 => (refine Or.inl ⟨by kernel_rfl, ?_⟩; intro w hSw; (try dsimp only at hSw); go_simp; try with_reducible rfl)
            try simp only [Act.put, List.setIfInBounds_toArray, List.set_cons_zero, List.set_cons_succ]
            refine wpAnyH_take (i := 23) (oi := ?oiB123) (v := ?vB123) ?hiB123 ?hsB123 ?hfB123 ?hrB123 ?hQB123 ?hyB123 (by assumption) ?restB123
            case hiB123 => (simp only [List.getElem?_toArray, List.getElem?_cons_succ, List.getElem?_cons_zero]; rfl)
            case hsB123 => kernel_rfl
            case hfB123 => kernel_rfl
            case hrB123 => kernel_rfl
            case hQB123 => exact fun _ _ _ h => h
            case hyB123 => (refine Or.inl ⟨by kernel_rfl, ?_⟩; intro w hSw; (try dsimp only at hSw); go_simp; try with_reducible rfl)
            try simp only [Act.put, List.setIfInBounds_toArray, List.set_cons_zero, List.set_cons_succ]
            refine wpAnyH_take (i := 24) (oi := ?oiB124) (v := ?vB124) ?hiB124 ?hsB124 ?hfB124 ?hrB124 ?hQB124 ?hyB124 (by assumption) ?restB124
            case hiB124 => (simp only [List.getElem?_toArray, List.getElem?_cons_succ, List.getElem?_cons_zero]; rfl)
            case hsB124 => kernel_rfl
            case hfB124 => kernel_rfl
            case hrB124 => kernel_rfl
            case hQB124 => exact fun _ _ _ h => h
            case hyB124 => (refine Or.inl ⟨by kernel_rfl, ?_⟩; intro w hSw; (try dsimp only at hSw); go_simp; try with_reducible rfl)
            try simp only [Act.put, List.setIfInBounds_toArray, List.set_cons_zero, List.set_cons_succ]
            refine wpAnyH_take (i := 25) (oi := ?oiB125) (v := ?vB125) ?hiB125 ?hsB125 ?hfB125 ?hrB125 ?hQB125 ?hyB125 (by assumption) ?restB125
            case hiB125 => (simp only [List.getElem?_toArray, List.getElem?_cons_succ, List.getElem?_cons_zero]; rfl)
            case hsB125 => kernel_rfl
            case hfB125 => kernel_rfl
            case hrB125 => kernel_rfl
            case hQB125 => exact fun _ _ _ h => h
            case hyB125 => (refine Or.inl ⟨by kernel_rfl, ?_⟩; intro w hSw; (try dsimp only at hSw); go_simp; try with_reducible rfl)
            try simp only [Act.put, List.setIfInBounds_toArray, List.set_cons_zero, List.set_cons_succ]
            refine wpAnyH_take (i := 26) (oi := ?oiB126) (v := ?vB126) ?hiB126 ?hsB126 ?hfB126 ?hrB126 ?hQB126 ?hyB126 (by assumption) ?restB126
            case hiB126 => (simp only [List.getElem?_toArray, List.getElem?_cons_succ, List.getElem?_cons_zero]; rfl)
            case hsB126 => kernel_rfl
            case hfB126 => kernel_rfl
            case hrB126 => kernel_rfl
            case hQB126 => exact fun _ _ _ h => h
            case hyB126 => (refine Or.inl ⟨by kernel_rfl, ?_⟩; intro w hSw; (try dsimp only at hSw); go_simp; try with_reducible rfl)
            try simp only [Act.put, List.setIfInBounds_toArray, List.set_cons_zero, List.set_cons_succ]
            refine wpAnyH_take (i := 27) (oi := ?oiB127) (v := ?vB127) ?hiB127 ?hsB127 ?hfB127 ?hrB127 ?hQB127 ?hyB127 (by assumption) ?restB127
            case hiB127 => (simp only [List.getElem?_toArray, List.getElem?_cons_succ, List.getElem?_cons_zero]; rfl)
            case hsB127 => kernel_rfl
            case hfB127 => kernel_rfl
            case hrB127 => kernel_rfl
            case hQB127 => exact fun _ _ _ h => h
            case hyB127 => (refine Or.inl ⟨by kernel_rfl, ?_⟩; intro w hSw; (try dsimp only at hSw); go_simp; try with_reducible rfl)
            try simp only [Act.put, List.setIfInBounds_toArray, List.set_cons_zero, List.set_cons_succ]
            refine wpAnyH_take (i := 28) (oi := ?oiB128) (v := ?vB128) ?hiB128 ?hsB128 ?hfB128 ?hrB128 ?hQB128 ?hyB128 (by assumption) ?restB128
            case hiB128 => (simp only [List.getElem?_toArray, List.getElem?_cons_succ, List.getElem?_cons_zero]; rfl)
            case hsB128 => kernel_rfl
            case hfB128 => kernel_rfl
            case hrB128 => kernel_rfl
            case hQB128 => exact fun _ _ _ h => h
            case hyB128 => (refine Or.inl ⟨by kernel_rfl, ?_⟩; intro w hSw; (try dsimp only at hSw); go_simp; try with_reducible rfl)
            try simp only [Act.put, List.setIfInBounds_toArray, List.set_cons_zero, List.set_cons_succ]
            refine wpAnyH_take (i := 29) (oi := ?oiB129) (v := ?vB129) ?hiB129 ?hsB129 ?hfB129 ?hrB129 ?hQB129 ?hyB129 (by assumption) ?restB129
            case hiB129 => (simp only [List.getElem?_toArray, List.getElem?_cons_succ, List.getElem?_cons_zero]; rfl)
            case hsB129 => kernel_rfl
            case hfB129 => kernel_rfl
            case hrB129 => kernel_rfl
            case hQB129 => exact fun _ _ _ h => h
            case hyB129 => (refine Or.inl ⟨by kernel_rfl, ?_⟩; intro w hSw; (try dsimp only at hSw); go_simp; try with_reducible rfl)
            try simp only [Act.put, List.setIfInBounds_toArray, List.set_cons_zero, List.set_cons_succ]
            refine wpAnyH_take (i := 30) (oi := ?oiB130) (v := ?vB130) ?hiB130 ?hsB130 ?hfB130 ?hrB130 ?hQB130 ?hyB130 (by assumption) ?restB130
            case hiB130 => (simp only [List.getElem?_toArray, List.getElem?_cons_succ, List.getElem?_cons_zero]; rfl)
            case hsB130 => kernel_rfl
            case hfB130 => kernel_rfl
            case hrB130 => kernel_rfl
            case hQB130 => exact fun _ _ _ h => h
            case hyB130 => (refine Or.inl ⟨by kernel_rfl, ?_⟩; intro w hSw; (try dsimp only at hSw); go_simp; try with_reducible rfl)
            try simp only [Act.put, List.setIfInBounds_toArray, List.set_cons_zero, List.set_cons_succ]
            refine wpAnyH_ready (rs := [31]) (by kernel_rfl) (by simp) ?_
            refine AllReadyH.cons rfl (fun K hK => ?_) AllReadyH.nil
            go_simp
            go_at_call 16; have hcall := Nodes_inv an hs (bu + 1) _ (HT7.out.ext hHeld.1); refine hcall.mono ?_; clear hcall; rintro e w9 ⟨v, rfl, hv, hx9, ht8⟩; rw [HN4.out] at hv; obtain ⟨na, nc, rfl⟩ := hv.shape; clear hv ht8
            go_wp2_with fail
            refine hK.out _ _ ⟨hHeld.1.trans hx9, hx9.cellAt hHeld.2.1, hx9.cellAt hHeld.2.2.1, hx9.cellAt hHeld.2.2.2.1, hx9.cellAt hHeld.2.2.2.2.1, hx9.cellAt hHeld.2.2.2.2.2.1, hx9.cellAt hHeld.2.2.2.2.2.2.1, hx9.cellAt hHeld.2.2.2.2.2.2.2.1, hx9.cellAt hHeld.2.2.2.2.2.2.2.2.1, hx9.cellAt hHeld.2.2.2.2.2.2.2.2.2.1, hx9.cellAt hHeld.2.2.2.2.2.2.2.2.2.2.1, hx9.cellAt hHeld.2.2.2.2.2.2.2.2.2.2.2⟩ (fun hHeld => ?_)
            clear hK K
            try simp only [Act.put, List.setIfInBounds_toArray, List.set_cons_zero, List.set_cons_succ]
            refine wpAnyH_take (i := 32) (oi := ?oiB132) (v := ?vB132) ?hiB132 ?hsB132 ?hfB132 ?hrB132 ?hQB132 ?hyB132 (by assumption) ?restB132
            case hiB132 => (simp only [List.getElem?_toArray, List.getElem?_cons_succ, List.getElem?_cons_zero]; rfl)
            case hsB132 => kernel_rfl
            case hfB132 => kernel_rfl
            case hrB132 => kernel_rfl
            case hQB132 => exact fun _ _ _ h => h
            case hyB132 => (refine Or.inl ⟨by kernel_rfl, ?_⟩; intro w hSw; (try dsimp only at hSw); go_simp; try with_reducible rfl)
            try simp only [Act.put, List.setIfInBounds_toArray, List.set_cons_zero, List.set_cons_succ]
            refine wpAnyH_take (i := 33) (oi := ?oiB133) (v := ?vB133) ?hiB133 ?hsB133 ?hfB133 ?hrB133 ?hQB133 ?hyB133 (by assumption) ?restB133
            case hiB133 => (simp only [List.getElem?_toArray, List.getElem?_cons_succ, List.getElem?_cons_zero]; rfl)
            case hsB133 => kernel_rfl
            case hfB133 => kernel_rfl
            case hrB133 => kernel_rfl
            case hQB133 => exact fun _ _ _ h => h
            case hyB133 => (refine Or.inl ⟨by kernel_rfl, ?_⟩; intro w hSw; (try dsimp only at hSw); go_simp; try with_reducible rfl)
            try simp only [Act.put, List.setIfInBounds_toArray, List.set_cons_zero, List.set_cons_succ]
            refine wpAnyH_take (i := 34) (oi := ?oiB134) (v := ?vB134) ?hiB134 ?hsB134 ?hfB134 ?hrB134 ?hQB134 ?hyB134 (by assumption) ?restB134
            case hiB134 => (simp only [List.getElem?_toArray, List.getElem?_cons_succ, List.getElem?_cons_zero]; rfl)
            case hsB134 => kernel_rfl
            case hfB134 => kernel_rfl
            case hrB134 => kernel_rfl
            case hQB134 => exact fun _ _ _ h => h
            case hyB134 => (refine Or.inl ⟨by kernel_rfl, ?_⟩; intro w hSw; (try dsimp only at hSw); go_simp; try with_reducible rfl)
            try simp only [Act.put, List.setIfInBounds_toArray, List.set_cons_zero, List.set_cons_succ]
            refine wpAnyH_take (i := 35) (oi := ?oiB135) (v := ?vB135) ?hiB135 ?hsB135 ?hfB135 ?hrB135 ?hQB135 ?hyB135 (by assumption) ?restB135
            case hiB135 => (simp only [List.getElem?_toArray, List.getElem?_cons_succ, List.getElem?_cons_zero]; rfl)
            case hsB135 => kernel_rfl
            case hfB135 => kernel_rfl
            case hrB135 => kernel_rfl
            case hQB135 => exact fun _ _ _ h => h
            case hyB135 => (refine Or.inl ⟨by kernel_rfl, ?_⟩; intro w hSw; (try dsimp only at hSw); go_simp; try with_reducible rfl)
            try simp only [Act.put, List.setIfInBounds_toArray, List.set_cons_zero, List.set_cons_succ]
            refine wpAnyH_take (i := 36) (oi := ?oiB136) (v := ?vB136) ?hiB136 ?hsB136 ?hfB136 ?hrB136 ?hQB136 ?hyB136 (by assumption) ?restB136
            case hiB136 => (simp only [List.getElem?_toArray, List.getElem?_cons_succ, List.getElem?_cons_zero]; rfl)
            case hsB136 => kernel_rfl
            case hfB136 => kernel_rfl
            case hrB136 => kernel_rfl
            case hQB136 => exact fun _ _ _ h => h
            case hyB136 => (refine Or.inl ⟨by kernel_rfl, ?_⟩; intro w hSw; (try dsimp only at hSw); go_simp; try with_reducible rfl)
            try simp only [Act.put, List.setIfInBounds_toArray, List.set_cons_zero, List.set_cons_succ]
            refine wpAnyH_done (by kernel_rfl) ?_ _
            have hxe := HT7.out.ext hHeld.1
            go_wp2
            go_ret
            exact ⟨rfl, hfin.out _ hxe.base⟩
      · have HNOD : Hid (nodesL (oneT ⟨an, ad, ax, ay, au⟩) an.data.toList now = []) := Lib.hid (by
          have := nodes_one ⟨an, ad, ax, ay, au⟩ hpeer now
          rw [if_neg (fun h => hn h.2)] at this; exact this)
        go_wp2_with fail
        go_region_held3 (fun w' => Ext w4 w' ∧ w'.cell? ⟨w.heap.size, 0, none⟩ = some (.string an) ∧ w'.cell? ⟨w.heap.size, 4, none⟩ = some (.int .i64 au))
          ((go_split_ands; refine ⟨?_, ?_, ?_⟩ <;> (first | assumption | (exact hx5.cellAt (by assumption)) | go_keep | ((repeat' (first | exact Ext.refl _ | assumption | (apply Ext.after; assumption) | (refine Ext.alloc ?_ _) | (refine Ext.drew ?_) | (refine Ext.drewN ?_ _) | (refine Ext.setCell ?_ ?_ _) | (simp; done) | (simp; omega) | omega)); done))))
          ((first | (go_at_call 16; refine (Nodes_inv an hs now _ (HT4.out.ext ((Ext.refl _).drew))).mono ?_; rintro e w5 ⟨v, rfl, hv, hx5, ht5⟩; rw [HNOD.out] at hv; obtain ⟨na, nc, rfl⟩ := hv.shape; clear hv ht5)))
        have hx45 : Ext w4 w5 := by (go_split_ands; assumption)
        have HT5 := Lib.hid (HT4.out.ext hx45)
        have A0 := hx45.cellAt A0
        have A3 := hx45.cellAt A3
        have B0 := hx45.cellAt B0
        have B1 := hx45.cellAt B1
        have B2 := hx45.cellAt B2
        have B3 := hx45.cellAt B3
        have B4 := hx45.cellAt B4
        clear hx45 hx5 HT4
        go_wp2_with fail
        have hlt : ∀ j, (⟨w.heap.size, j, none⟩ : Addr).block < w.heap.size + 1 + 1 := fun j => by (dsimp only; omega)
        have hlt2 : ∀ j, (⟨w.heap.size + 1, j, none⟩ : Addr).block < w.heap.size + 1 + 1 := fun j => by (dsimp only; omega)
        obtain ⟨ns, hr, hns, hln⟩ := counts_one ⟨an, ad, ax, ay, au⟩ hpeer now hk
        cases hmb : mayB ⟨an, ad, bx, bY, bu⟩ now with
        | false =>
          refine (ann_inv_no ⟨an, ad, bx, bY, bu⟩ now hmb _ HT5.out).mono ?_
          rintro e w6 ⟨rfl, ht6⟩
          have A0 := ht6.cell (hlt 0) K0.out
          have A4 := ht6.cell (hlt 4) K4.out
          have HT6 := Lib.hid ht6
          clear ht6 HT5 B0 B1 B2 B3 B4 A3
          go_wp2_with fail
          refine (Nodes_inv an hs now _ HT6.out).mono ?_
          rintro e w7 ⟨v, rfl, hv, hx7, ht7⟩
          have A4 := hx7.cellAt A4
          rw [HNOD.out] at hv
          obtain ⟨na7, nc7, rfl⟩ := hv.shape
          have HT7 := Lib.hid ht7
          clear hv hx7 ht7 HT6
          go_wp2
          go_ret
          exact ⟨by first | rfl | (simp [hn]; done), hfin.out _ HT7.out.base⟩
        | true =>
          refine (ann_inv (by omega) ⟨an, ad, bx, bY, bu⟩ now hmb _ HT5.out ns hr hns (Or.inr (by omega))).mono ?_
          rintro e w6 ⟨rfl, n6, hn6, ht6⟩
          rw [ann_one ⟨an, ad, ax, ay, au⟩ ⟨an, ad, bx, bY, bu⟩ now rfl rfl] at ht6
          have A0 := ht6.cell (hlt 0) K0.out
          have HT6 := Lib.hid ht6
          clear ht6 HT5 B0 B1 B2 B3 B4 A3
          have hbm : now ≤ bu ∧ bu ≤ 1099511627776 := by
            have := hmb; simp [mayB] at this; omega
          obtain ⟨hbu1, hbu2⟩ := hbm
          have hno2 := nodes_one ⟨an, ad, bx, bY, bu⟩ hpeer now
          rw [if_pos ⟨hk, hbu1⟩] at hno2
          have hno3 := nodes_one ⟨an, ad, bx, bY, bu⟩ hpeer bu
          rw [if_pos ⟨by simp [tickB]; omega, Int.le_refl _⟩] at hno3
          have hno4 := nodes_one ⟨an, ad, bx, bY, bu⟩ hpeer (bu + 1)
          rw [if_neg (fun h => by have := h.2; simp at this; omega)] at hno4
          have HN2 := Lib.hid hno2
          have HN3 := Lib.hid hno3
          have HN4 := Lib.hid hno4
          clear hno2 hno3 hno4
          go_wp2_with fail
          refine (Nodes_inv an hs now _ HT6.out).mono ?_
          rintro e w7 ⟨v, rfl, hv, hx7, ht7⟩
          have hv2 : NSl w7 v [⟨an, ad, bx, bY, bu⟩] := by have := hv; rw [HN2.out] at this; exact this
          clear hv
          rcases hv2 with ⟨h0, _⟩ | ⟨lb, off, cap, rfl, hc⟩
          · simp at h0
          have A0 := ht7.cell (hlt 0) K0.out
          have B0 := ht7.cell (hlt2 0) L0.out
          have B1 := ht7.cell (hlt2 1) L1.out
          have B2 := ht7.cell (hlt2 2) L2.out
          have B3 := ht7.cell (hlt2 3) L3.out
          have B4 := ht7.cell (hlt2 4) L4.out
          have C0 : w7.cell? ⟨lb, off, none⟩ = some (.string an) := hc 0 _ rfl
          have C1 : w7.cell? ⟨lb, off + 1, none⟩ = some (.int .i64 ad) := hc 1 _ rfl
          have C2 : w7.cell? ⟨lb, off + 2, none⟩ = some (.int .i64 bx) := hc 2 _ rfl
          have C3 : w7.cell? ⟨lb, off + 3, none⟩ = some (.int .i64 bY) := hc 3 _ rfl
          have C4 : w7.cell? ⟨lb, off + 4, none⟩ = some (.int .i64 bu) := hc 4 _ rfl
          have HT7 := Lib.hid ht7
          clear hc hx7 ht7 HT6
          go_wp2_with fail
          have heq := fun w' : World => eq_note an ad bx bY bu w'
          by_cases hmy : bu = 1099511627776
          · subst hmy
            refine wp_region_held_drew (S := fun w' => Ext w7 w' ∧ w'.cell? ⟨w.heap.size, 0, none⟩ = some (.string an) ∧ w'.cell? ⟨w.heap.size + 1, 0, none⟩ = some (.string an) ∧ w'.cell? ⟨w.heap.size + 1, 1, none⟩ = some (.int .i64 ad) ∧ w'.cell? ⟨w.heap.size + 1, 2, none⟩ = some (.int .i64 bx) ∧ w'.cell? ⟨w.heap.size + 1, 3, none⟩ = some (.int .i64 bY) ∧ w'.cell? ⟨w.heap.size + 1, 4, none⟩ = some (.int .i64 1099511627776) ∧ w'.cell? ⟨lb, off, none⟩ = some (.string an) ∧ w'.cell? ⟨lb, off + 1, none⟩ = some (.int .i64 ad) ∧ w'.cell? ⟨lb, off + 2, none⟩ = some (.int .i64 bx) ∧ w'.cell? ⟨lb, off + 3, none⟩ = some (.int .i64 bY) ∧ w'.cell? ⟨lb, off + 4, none⟩ = some (.int .i64 1099511627776)) (by kernel_rfl) ⟨by (repeat' (first | exact Ext.refl _ | assumption | (apply Ext.after; assumption) | (refine Ext.alloc ?_ _) | (refine Ext.drew ?_) | (refine Ext.drewN ?_ _) | (refine Ext.setCell ?_ ?_ _) | (simp; done) | (simp; omega) | omega)), A0, B0, B1, B2, B3, B4, C0, C1, C2, C3, C4⟩ (fun hHeld => ?_)
            clear A0 B0 B1 B2 B3 B4 C0 C1 C2 C3 C4
            refine wpAnyH_take (i := 0) (oi := ?oiA20) (v := ?vA20) ?hiA20 ?hsA20 ?hfA20 ?hrA20 ?hQA20 ?hyA20 (by assumption) ?restA20
            case hiA20 => (simp only [List.getElem?_toArray, List.getElem?_cons_succ, List.getElem?_cons_zero]; rfl)
            case hsA20 => kernel_rfl
            case hfA20 => kernel_rfl
            case hrA20 => kernel_rfl
            case hQA20 => exact fun _ _ _ h => h
            case hyA20 => (refine Or.inl ⟨by kernel_rfl, ?_⟩; intro w hSw; (try dsimp only at hSw); go_simp; try with_reducible rfl)
            try simp only [Act.put, List.setIfInBounds_toArray, List.set_cons_zero, List.set_cons_succ]
            refine wpAnyH_take (i := 1) (oi := ?oiA21) (v := ?vA21) ?hiA21 ?hsA21 ?hfA21 ?hrA21 ?hQA21 ?hyA21 (by assumption) ?restA21
            case hiA21 => (simp only [List.getElem?_toArray, List.getElem?_cons_succ, List.getElem?_cons_zero]; rfl)
            case hsA21 => kernel_rfl
            case hfA21 => kernel_rfl
            case hrA21 => kernel_rfl
            case hQA21 => exact fun _ _ _ h => h
            case hyA21 => (refine Or.inl ⟨by kernel_rfl, ?_⟩; intro w hSw; (try dsimp only at hSw); go_simp; try with_reducible rfl)
            try simp only [Act.put, List.setIfInBounds_toArray, List.set_cons_zero, List.set_cons_succ]
            refine wpAnyH_take (i := 2) (oi := ?oiA22) (v := ?vA22) ?hiA22 ?hsA22 ?hfA22 ?hrA22 ?hQA22 ?hyA22 (by assumption) ?restA22
            case hiA22 => (simp only [List.getElem?_toArray, List.getElem?_cons_succ, List.getElem?_cons_zero]; rfl)
            case hsA22 => kernel_rfl
            case hfA22 => kernel_rfl
            case hrA22 => kernel_rfl
            case hQA22 => exact fun _ _ _ h => h
            case hyA22 => (refine Or.inl ⟨by kernel_rfl, ?_⟩; intro w hSw; (try dsimp only at hSw); go_simp; try with_reducible rfl)
            try simp only [Act.put, List.setIfInBounds_toArray, List.set_cons_zero, List.set_cons_succ]
            refine wpAnyH_take (i := 3) (oi := ?oiA23) (v := ?vA23) ?hiA23 ?hsA23 ?hfA23 ?hrA23 ?hQA23 ?hyA23 (by assumption) ?restA23
            case hiA23 => (simp only [List.getElem?_toArray, List.getElem?_cons_succ, List.getElem?_cons_zero]; rfl)
            case hsA23 => kernel_rfl
            case hfA23 => kernel_rfl
            case hrA23 => kernel_rfl
            case hQA23 => exact fun _ _ _ h => h
            case hyA23 => (refine Or.inl ⟨by kernel_rfl, ?_⟩; intro w hSw; (try dsimp only at hSw); go_simp; try with_reducible rfl)
            try simp only [Act.put, List.setIfInBounds_toArray, List.set_cons_zero, List.set_cons_succ]
            refine wpAnyH_take (i := 4) (oi := ?oiA24) (v := ?vA24) ?hiA24 ?hsA24 ?hfA24 ?hrA24 ?hQA24 ?hyA24 (by assumption) ?restA24
            case hiA24 => (simp only [List.getElem?_toArray, List.getElem?_cons_succ, List.getElem?_cons_zero]; rfl)
            case hsA24 => kernel_rfl
            case hfA24 => kernel_rfl
            case hrA24 => kernel_rfl
            case hQA24 => exact fun _ _ _ h => h
            case hyA24 => (refine Or.inl ⟨by kernel_rfl, ?_⟩; intro w hSw; (try dsimp only at hSw); go_simp; try with_reducible rfl)
            try simp only [Act.put, List.setIfInBounds_toArray, List.set_cons_zero, List.set_cons_succ]
            refine wpAnyH_take (i := 5) (oi := ?oiA25) (v := ?vA25) ?hiA25 ?hsA25 ?hfA25 ?hrA25 ?hQA25 ?hyA25 (by assumption) ?restA25
            case hiA25 => (simp only [List.getElem?_toArray, List.getElem?_cons_succ, List.getElem?_cons_zero]; rfl)
            case hsA25 => kernel_rfl
            case hfA25 => kernel_rfl
            case hrA25 => kernel_rfl
            case hQA25 => exact fun _ _ _ h => h
            case hyA25 => (refine Or.inl ⟨by kernel_rfl, ?_⟩; intro w hSw; (try dsimp only at hSw); go_simp; try with_reducible rfl)
            try simp only [Act.put, List.setIfInBounds_toArray, List.set_cons_zero, List.set_cons_succ]
            refine wpAnyH_take (i := 6) (oi := ?oiA26) (v := ?vA26) ?hiA26 ?hsA26 ?hfA26 ?hrA26 ?hQA26 ?hyA26 (by assumption) ?restA26
            case hiA26 => (simp only [List.getElem?_toArray, List.getElem?_cons_succ, List.getElem?_cons_zero]; rfl)
            case hsA26 => kernel_rfl
            case hfA26 => kernel_rfl
            case hrA26 => kernel_rfl
            case hQA26 => exact fun _ _ _ h => h
            case hyA26 => (refine Or.inl ⟨by kernel_rfl, ?_⟩; intro w hSw; (try dsimp only at hSw); go_simp; try with_reducible rfl)
            try simp only [Act.put, List.setIfInBounds_toArray, List.set_cons_zero, List.set_cons_succ]
            refine wpAnyH_take (i := 7) (oi := ?oiA27) (v := ?vA27) ?hiA27 ?hsA27 ?hfA27 ?hrA27 ?hQA27 ?hyA27 (by assumption) ?restA27
            case hiA27 => (simp only [List.getElem?_toArray, List.getElem?_cons_succ, List.getElem?_cons_zero]; rfl)
            case hsA27 => kernel_rfl
            case hfA27 => kernel_rfl
            case hrA27 => kernel_rfl
            case hQA27 => exact fun _ _ _ h => h
            case hyA27 => (refine Or.inl ⟨by kernel_rfl, ?_⟩; intro w hSw; (try dsimp only at hSw); go_simp; try with_reducible rfl)
            try simp only [Act.put, List.setIfInBounds_toArray, List.set_cons_zero, List.set_cons_succ]
            refine wpAnyH_take (i := 8) (oi := ?oiA28) (v := ?vA28) ?hiA28 ?hsA28 ?hfA28 ?hrA28 ?hQA28 ?hyA28 (by assumption) ?restA28
            case hiA28 => (simp only [List.getElem?_toArray, List.getElem?_cons_succ, List.getElem?_cons_zero]; rfl)
            case hsA28 => kernel_rfl
            case hfA28 => kernel_rfl
            case hrA28 => kernel_rfl
            case hQA28 => exact fun _ _ _ h => h
            case hyA28 => (refine Or.inl ⟨by kernel_rfl, ?_⟩; intro w hSw; (try dsimp only at hSw); go_simp; try with_reducible rfl)
            try simp only [Act.put, List.setIfInBounds_toArray, List.set_cons_zero, List.set_cons_succ]
            refine wpAnyH_take (i := 9) (oi := ?oiA29) (v := ?vA29) ?hiA29 ?hsA29 ?hfA29 ?hrA29 ?hQA29 ?hyA29 (by assumption) ?restA29
            case hiA29 => (simp only [List.getElem?_toArray, List.getElem?_cons_succ, List.getElem?_cons_zero]; rfl)
            case hsA29 => kernel_rfl
            case hfA29 => kernel_rfl
            case hrA29 => kernel_rfl
            case hQA29 => exact fun _ _ _ h => h
            case hyA29 => (refine Or.inl ⟨by kernel_rfl, ?_⟩; intro w hSw; (try dsimp only at hSw); go_simp; try with_reducible rfl)
            try simp only [Act.put, List.setIfInBounds_toArray, List.set_cons_zero, List.set_cons_succ]
            refine wpAnyH_take (i := 10) (oi := ?oiA210) (v := ?vA210) ?hiA210 ?hsA210 ?hfA210 ?hrA210 ?hQA210 ?hyA210 (by assumption) ?restA210
            case hiA210 => (simp only [List.getElem?_toArray, List.getElem?_cons_succ, List.getElem?_cons_zero]; rfl)
            case hsA210 => kernel_rfl
            case hfA210 => kernel_rfl
            case hrA210 => kernel_rfl
            case hQA210 => exact fun _ _ _ h => h
            case hyA210 => (refine Or.inl ⟨by kernel_rfl, ?_⟩; intro w hSw; (try dsimp only at hSw); go_simp; try with_reducible rfl)
            try simp only [Act.put, List.setIfInBounds_toArray, List.set_cons_zero, List.set_cons_succ]
            refine wpAnyH_take (i := 11) (oi := ?oiA211) (v := ?vA211) ?hiA211 ?hsA211 ?hfA211 ?hrA211 ?hQA211 ?hyA211 (by assumption) ?restA211
            case hiA211 => (simp only [List.getElem?_toArray, List.getElem?_cons_succ, List.getElem?_cons_zero]; rfl)
            case hsA211 => kernel_rfl
            case hfA211 => kernel_rfl
            case hrA211 => kernel_rfl
            case hQA211 => exact fun _ _ _ h => h
            case hyA211 => (refine Or.inl ⟨by kernel_rfl, ?_⟩; intro w hSw; (try dsimp only at hSw); go_simp; try with_reducible rfl)
            try simp only [Act.put, List.setIfInBounds_toArray, List.set_cons_zero, List.set_cons_succ]
            refine wpAnyH_take (i := 12) (oi := ?oiA212) (v := ?vA212) ?hiA212 ?hsA212 ?hfA212 ?hrA212 ?hQA212 ?hyA212 (by assumption) ?restA212
            case hiA212 => (simp only [List.getElem?_toArray, List.getElem?_cons_succ, List.getElem?_cons_zero]; rfl)
            case hsA212 => kernel_rfl
            case hfA212 => kernel_rfl
            case hrA212 => kernel_rfl
            case hQA212 => exact fun _ _ _ h => h
            case hyA212 => (refine Or.inl ⟨by kernel_rfl, ?_⟩; intro w hSw; (try dsimp only at hSw); go_simp; try with_reducible rfl)
            try simp only [Act.put, List.setIfInBounds_toArray, List.set_cons_zero, List.set_cons_succ]
            refine wpAnyH_take (i := 13) (oi := ?oiA213) (v := ?vA213) ?hiA213 ?hsA213 ?hfA213 ?hrA213 ?hQA213 ?hyA213 (by assumption) ?restA213
            case hiA213 => (simp only [List.getElem?_toArray, List.getElem?_cons_succ, List.getElem?_cons_zero]; rfl)
            case hsA213 => kernel_rfl
            case hfA213 => kernel_rfl
            case hrA213 => kernel_rfl
            case hQA213 => exact fun _ _ _ h => h
            case hyA213 => (refine Or.inl ⟨by kernel_rfl, ?_⟩; intro w hSw; (try dsimp only at hSw); go_simp; try with_reducible rfl)
            try simp only [Act.put, List.setIfInBounds_toArray, List.set_cons_zero, List.set_cons_succ]
            refine wpAnyH_take (i := 14) (oi := ?oiA214) (v := ?vA214) ?hiA214 ?hsA214 ?hfA214 ?hrA214 ?hQA214 ?hyA214 (by assumption) ?restA214
            case hiA214 => (simp only [List.getElem?_toArray, List.getElem?_cons_succ, List.getElem?_cons_zero]; rfl)
            case hsA214 => kernel_rfl
            case hfA214 => kernel_rfl
            case hrA214 => kernel_rfl
            case hQA214 => exact fun _ _ _ h => h
            case hyA214 => (refine Or.inl ⟨by kernel_rfl, ?_⟩; intro w hSw; (try dsimp only at hSw); go_simp; try with_reducible rfl)
            try simp only [Act.put, List.setIfInBounds_toArray, List.set_cons_zero, List.set_cons_succ]
            refine wpAnyH_take (i := 15) (oi := ?oiA215) (v := ?vA215) ?hiA215 ?hsA215 ?hfA215 ?hrA215 ?hQA215 ?hyA215 (by assumption) ?restA215
            case hiA215 => (simp only [List.getElem?_toArray, List.getElem?_cons_succ, List.getElem?_cons_zero]; rfl)
            case hsA215 => kernel_rfl
            case hfA215 => kernel_rfl
            case hrA215 => kernel_rfl
            case hQA215 => exact fun _ _ _ h => h
            case hyA215 => (refine Or.inl ⟨by kernel_rfl, ?_⟩; intro w hSw; (try dsimp only at hSw); go_simp; try with_reducible rfl)
            try simp only [Act.put, List.setIfInBounds_toArray, List.set_cons_zero, List.set_cons_succ]
            refine wpAnyH_ready (rs := [16]) (by kernel_rfl) (by simp) ?_
            refine AllReadyH.cons rfl (fun K hK => ?_) AllReadyH.nil
            go_simp
            go_at_call 16; have hcall := Nodes_inv an hs (1099511627776) _ (HT7.out.ext hHeld.1); refine hcall.mono ?_; clear hcall; rintro e w8 ⟨v, rfl, hv, hx8, ht8⟩; rw [HN3.out] at hv; obtain ⟨na, nc, rfl⟩ := hv.shape; clear hv ht8
            go_wp2_with fail
            refine hK.out _ _ ⟨hHeld.1.trans hx8, hx8.cellAt hHeld.2.1, hx8.cellAt hHeld.2.2.1, hx8.cellAt hHeld.2.2.2.1, hx8.cellAt hHeld.2.2.2.2.1, hx8.cellAt hHeld.2.2.2.2.2.1, hx8.cellAt hHeld.2.2.2.2.2.2.1, hx8.cellAt hHeld.2.2.2.2.2.2.2.1, hx8.cellAt hHeld.2.2.2.2.2.2.2.2.1, hx8.cellAt hHeld.2.2.2.2.2.2.2.2.2.1, hx8.cellAt hHeld.2.2.2.2.2.2.2.2.2.2.1, hx8.cellAt hHeld.2.2.2.2.2.2.2.2.2.2.2⟩ (fun hHeld => ?_)
            clear hK K
            try simp only [Act.put, List.setIfInBounds_toArray, List.set_cons_zero, List.set_cons_succ]
            refine wpAnyH_take (i := 17) (oi := ?oiA217) (v := ?vA217) ?hiA217 ?hsA217 ?hfA217 ?hrA217 ?hQA217 ?hyA217 (by assumption) ?restA217
            case hiA217 => (simp only [List.getElem?_toArray, List.getElem?_cons_succ, List.getElem?_cons_zero]; rfl)
            case hsA217 => kernel_rfl
            case hfA217 => kernel_rfl
            case hrA217 => kernel_rfl
            case hQA217 => exact fun _ _ _ h => h
            case hyA217 => (refine Or.inl ⟨by kernel_rfl, ?_⟩; intro w hSw; (try dsimp only at hSw); go_simp; try with_reducible rfl)
            try simp only [Act.put, List.setIfInBounds_toArray, List.set_cons_zero, List.set_cons_succ]
            refine wpAnyH_take (i := 18) (oi := ?oiA218) (v := ?vA218) ?hiA218 ?hsA218 ?hfA218 ?hrA218 ?hQA218 ?hyA218 (by assumption) ?restA218
            case hiA218 => (simp only [List.getElem?_toArray, List.getElem?_cons_succ, List.getElem?_cons_zero]; rfl)
            case hsA218 => kernel_rfl
            case hfA218 => kernel_rfl
            case hrA218 => kernel_rfl
            case hQA218 => exact fun _ _ _ h => h
            case hyA218 => (refine Or.inl ⟨by kernel_rfl, ?_⟩; intro w hSw; (try dsimp only at hSw); go_simp; try with_reducible rfl)
            try simp only [Act.put, List.setIfInBounds_toArray, List.set_cons_zero, List.set_cons_succ]
            refine wpAnyH_take (i := 19) (oi := ?oiA219) (v := ?vA219) ?hiA219 ?hsA219 ?hfA219 ?hrA219 ?hQA219 ?hyA219 (by assumption) ?restA219
            case hiA219 => (simp only [List.getElem?_toArray, List.getElem?_cons_succ, List.getElem?_cons_zero]; rfl)
            case hsA219 => kernel_rfl
            case hfA219 => kernel_rfl
            case hrA219 => kernel_rfl
            case hQA219 => exact fun _ _ _ h => h
            case hyA219 => (refine Or.inl ⟨by kernel_rfl, ?_⟩; intro w hSw; (try dsimp only at hSw); go_simp; try with_reducible rfl)
            try simp only [Act.put, List.setIfInBounds_toArray, List.set_cons_zero, List.set_cons_succ]
            refine wpAnyH_take (i := 20) (oi := ?oiA220) (v := ?vA220) ?hiA220 ?hsA220 ?hfA220 ?hrA220 ?hQA220 ?hyA220 (by assumption) ?restA220
            case hiA220 => (simp only [List.getElem?_toArray, List.getElem?_cons_succ, List.getElem?_cons_zero]; rfl)
            case hsA220 => kernel_rfl
            case hfA220 => kernel_rfl
            case hrA220 => kernel_rfl
            case hQA220 => exact fun _ _ _ h => h
            case hyA220 => (refine Or.inl ⟨by kernel_rfl, ?_⟩; intro w hSw; (try dsimp only at hSw); go_simp; try with_reducible rfl)
            try simp only [Act.put, List.setIfInBounds_toArray, List.set_cons_zero, List.set_cons_succ]
            refine wpAnyH_take (i := 21) (oi := ?oiA221) (v := ?vA221) ?hiA221 ?hsA221 ?hfA221 ?hrA221 ?hQA221 ?hyA221 (by assumption) ?restA221
            case hiA221 => (simp only [List.getElem?_toArray, List.getElem?_cons_succ, List.getElem?_cons_zero]; rfl)
            case hsA221 => kernel_rfl
            case hfA221 => kernel_rfl
            case hrA221 => kernel_rfl
            case hQA221 => exact fun _ _ _ h => h
            case hyA221 => (refine Or.inl ⟨by kernel_rfl, ?_⟩; intro w hSw; (try dsimp only at hSw); go_simp; try with_reducible rfl)
            try simp only [Act.put, List.setIfInBounds_toArray, List.set_cons_zero, List.set_cons_succ]
            refine wpAnyH_take (i := 22) (oi := ?oiA222) (v := ?vA222) ?hiA222 ?hsA222 ?hfA222 ?hrA222 ?hQA222 ?hyA222 (by assumption) ?restA222
            case hiA222 => (simp only [List.getElem?_toArray, List.getElem?_cons_succ, List.getElem?_cons_zero]; rfl)
            case hsA222 => kernel_rfl
            case hfA222 => kernel_rfl
            case hrA222 => kernel_rfl
            case hQA222 => exact fun _ _ _ h => h
            case hyA222 => (refine Or.inl ⟨by kernel_rfl, ?_⟩; intro w hSw; (try dsimp only at hSw); go_simp; try with_reducible rfl)
            try simp only [Act.put, List.setIfInBounds_toArray, List.set_cons_zero, List.set_cons_succ]
            refine wpAnyH_take (i := 23) (oi := ?oiA223) (v := ?vA223) ?hiA223 ?hsA223 ?hfA223 ?hrA223 ?hQA223 ?hyA223 (by assumption) ?restA223
            case hiA223 => (simp only [List.getElem?_toArray, List.getElem?_cons_succ, List.getElem?_cons_zero]; rfl)
            case hsA223 => kernel_rfl
            case hfA223 => kernel_rfl
            case hrA223 => kernel_rfl
            case hQA223 => exact fun _ _ _ h => h
            case hyA223 => (refine Or.inl ⟨by kernel_rfl, ?_⟩; intro w hSw; (try dsimp only at hSw); go_simp; try with_reducible rfl)
            try simp only [Act.put, List.setIfInBounds_toArray, List.set_cons_zero, List.set_cons_succ]
            refine wpAnyH_take (i := 24) (oi := ?oiA224) (v := ?vA224) ?hiA224 ?hsA224 ?hfA224 ?hrA224 ?hQA224 ?hyA224 (by assumption) ?restA224
            case hiA224 => (simp only [List.getElem?_toArray, List.getElem?_cons_succ, List.getElem?_cons_zero]; rfl)
            case hsA224 => kernel_rfl
            case hfA224 => kernel_rfl
            case hrA224 => kernel_rfl
            case hQA224 => exact fun _ _ _ h => h
            case hyA224 => (refine Or.inl ⟨by kernel_rfl, ?_⟩; intro w hSw; (try dsimp only at hSw); go_simp; try with_reducible rfl)
            try simp only [Act.put, List.setIfInBounds_toArray, List.set_cons_zero, List.set_cons_succ]
            refine wpAnyH_take (i := 25) (oi := ?oiA225) (v := undef) ?hiA225 ?hsA225 ?hfA225 ?hrA225 ?hQA225 ?hyA225 (by assumption) ?restA225
            case hiA225 => (simp only [List.getElem?_toArray, List.getElem?_cons_succ, List.getElem?_cons_zero]; rfl)
            case hsA225 => kernel_rfl
            case hfA225 => kernel_rfl
            case hrA225 => kernel_rfl
            case hQA225 => exact fun _ _ _ h => h
            case hyA225 => exact Or.inr ⟨by kernel_rfl, rfl⟩
            try simp only [Act.put, List.setIfInBounds_toArray, List.set_cons_zero, List.set_cons_succ]
            refine wpAnyH_take (i := 26) (oi := ?oiA226) (v := undef) ?hiA226 ?hsA226 ?hfA226 ?hrA226 ?hQA226 ?hyA226 (by assumption) ?restA226
            case hiA226 => (simp only [List.getElem?_toArray, List.getElem?_cons_succ, List.getElem?_cons_zero]; rfl)
            case hsA226 => kernel_rfl
            case hfA226 => kernel_rfl
            case hrA226 => kernel_rfl
            case hQA226 => exact fun _ _ _ h => h
            case hyA226 => exact Or.inr ⟨by kernel_rfl, rfl⟩
            try simp only [Act.put, List.setIfInBounds_toArray, List.set_cons_zero, List.set_cons_succ]
            refine wpAnyH_take (i := 27) (oi := ?oiA227) (v := undef) ?hiA227 ?hsA227 ?hfA227 ?hrA227 ?hQA227 ?hyA227 (by assumption) ?restA227
            case hiA227 => (simp only [List.getElem?_toArray, List.getElem?_cons_succ, List.getElem?_cons_zero]; rfl)
            case hsA227 => kernel_rfl
            case hfA227 => kernel_rfl
            case hrA227 => kernel_rfl
            case hQA227 => exact fun _ _ _ h => h
            case hyA227 => exact Or.inr ⟨by kernel_rfl, rfl⟩
            try simp only [Act.put, List.setIfInBounds_toArray, List.set_cons_zero, List.set_cons_succ]
            refine wpAnyH_take (i := 28) (oi := ?oiA228) (v := undef) ?hiA228 ?hsA228 ?hfA228 ?hrA228 ?hQA228 ?hyA228 (by assumption) ?restA228
            case hiA228 => (simp only [List.getElem?_toArray, List.getElem?_cons_succ, List.getElem?_cons_zero]; rfl)
            case hsA228 => kernel_rfl
            case hfA228 => kernel_rfl
            case hrA228 => kernel_rfl
            case hQA228 => exact fun _ _ _ h => h
            case hyA228 => exact Or.inr ⟨by kernel_rfl, rfl⟩
            try simp only [Act.put, List.setIfInBounds_toArray, List.set_cons_zero, List.set_cons_succ]
            refine wpAnyH_take (i := 29) (oi := ?oiA229) (v := undef) ?hiA229 ?hsA229 ?hfA229 ?hrA229 ?hQA229 ?hyA229 (by assumption) ?restA229
            case hiA229 => (simp only [List.getElem?_toArray, List.getElem?_cons_succ, List.getElem?_cons_zero]; rfl)
            case hsA229 => kernel_rfl
            case hfA229 => kernel_rfl
            case hrA229 => kernel_rfl
            case hQA229 => exact fun _ _ _ h => h
            case hyA229 => exact Or.inr ⟨by kernel_rfl, rfl⟩
            try simp only [Act.put, List.setIfInBounds_toArray, List.set_cons_zero, List.set_cons_succ]
            refine wpAnyH_take (i := 30) (oi := ?oiA230) (v := undef) ?hiA230 ?hsA230 ?hfA230 ?hrA230 ?hQA230 ?hyA230 (by assumption) ?restA230
            case hiA230 => (simp only [List.getElem?_toArray, List.getElem?_cons_succ, List.getElem?_cons_zero]; rfl)
            case hsA230 => kernel_rfl
            case hfA230 => kernel_rfl
            case hrA230 => kernel_rfl
            case hQA230 => exact fun _ _ _ h => h
            case hyA230 => exact Or.inr ⟨by kernel_rfl, rfl⟩
            try simp only [Act.put, List.setIfInBounds_toArray, List.set_cons_zero, List.set_cons_succ]
            refine wpAnyH_take (i := 31) (oi := ?oiA231) (v := undef) ?hiA231 ?hsA231 ?hfA231 ?hrA231 ?hQA231 ?hyA231 (by assumption) ?restA231
            case hiA231 => (simp only [List.getElem?_toArray, List.getElem?_cons_succ, List.getElem?_cons_zero]; rfl)
            case hsA231 => kernel_rfl
            case hfA231 => kernel_rfl
            case hrA231 => kernel_rfl
            case hQA231 => exact fun _ _ _ h => h
            case hyA231 => exact Or.inr ⟨by kernel_rfl, rfl⟩
            try simp only [Act.put, List.setIfInBounds_toArray, List.set_cons_zero, List.set_cons_succ]
            refine wpAnyH_take (i := 32) (oi := ?oiA232) (v := undef) ?hiA232 ?hsA232 ?hfA232 ?hrA232 ?hQA232 ?hyA232 (by assumption) ?restA232
            case hiA232 => (simp only [List.getElem?_toArray, List.getElem?_cons_succ, List.getElem?_cons_zero]; rfl)
            case hsA232 => kernel_rfl
            case hfA232 => kernel_rfl
            case hrA232 => kernel_rfl
            case hQA232 => exact fun _ _ _ h => h
            case hyA232 => exact Or.inr ⟨by kernel_rfl, rfl⟩
            try simp only [Act.put, List.setIfInBounds_toArray, List.set_cons_zero, List.set_cons_succ]
            refine wpAnyH_take (i := 33) (oi := ?oiA233) (v := undef) ?hiA233 ?hsA233 ?hfA233 ?hrA233 ?hQA233 ?hyA233 (by assumption) ?restA233
            case hiA233 => (simp only [List.getElem?_toArray, List.getElem?_cons_succ, List.getElem?_cons_zero]; rfl)
            case hsA233 => kernel_rfl
            case hfA233 => kernel_rfl
            case hrA233 => kernel_rfl
            case hQA233 => exact fun _ _ _ h => h
            case hyA233 => exact Or.inr ⟨by kernel_rfl, rfl⟩
            try simp only [Act.put, List.setIfInBounds_toArray, List.set_cons_zero, List.set_cons_succ]
            refine wpAnyH_take (i := 34) (oi := ?oiA234) (v := ?vA234) ?hiA234 ?hsA234 ?hfA234 ?hrA234 ?hQA234 ?hyA234 (by assumption) ?restA234
            case hiA234 => (simp only [List.getElem?_toArray, List.getElem?_cons_succ, List.getElem?_cons_zero]; rfl)
            case hsA234 => kernel_rfl
            case hfA234 => kernel_rfl
            case hrA234 => kernel_rfl
            case hQA234 => exact fun _ _ _ h => h
            case hyA234 => (refine Or.inl ⟨by kernel_rfl, ?_⟩; intro w hSw; (try dsimp only at hSw); go_simp; try with_reducible rfl)
            try simp only [Act.put, List.setIfInBounds_toArray, List.set_cons_zero, List.set_cons_succ]
            refine wpAnyH_take (i := 35) (oi := ?oiA235) (v := ?vA235) ?hiA235 ?hsA235 ?hfA235 ?hrA235 ?hQA235 ?hyA235 (by assumption) ?restA235
            case hiA235 => (simp only [List.getElem?_toArray, List.getElem?_cons_succ, List.getElem?_cons_zero]; rfl)
            case hsA235 => kernel_rfl
            case hfA235 => kernel_rfl
            case hrA235 => kernel_rfl
            case hQA235 => exact fun _ _ _ h => h
            case hyA235 => (refine Or.inl ⟨by kernel_rfl, ?_⟩; intro w hSw; (try dsimp only at hSw); go_simp; try with_reducible rfl)
            try simp only [Act.put, List.setIfInBounds_toArray, List.set_cons_zero, List.set_cons_succ]
            refine wpAnyH_take (i := 36) (oi := ?oiA236) (v := ?vA236) ?hiA236 ?hsA236 ?hfA236 ?hrA236 ?hQA236 ?hyA236 (by assumption) ?restA236
            case hiA236 => (simp only [List.getElem?_toArray, List.getElem?_cons_succ, List.getElem?_cons_zero]; rfl)
            case hsA236 => kernel_rfl
            case hfA236 => kernel_rfl
            case hrA236 => kernel_rfl
            case hQA236 => exact fun _ _ _ h => h
            case hyA236 => (refine Or.inl ⟨by kernel_rfl, ?_⟩; intro w hSw; (try dsimp only at hSw); go_simp; try with_reducible rfl)
            try simp only [Act.put, List.setIfInBounds_toArray, List.set_cons_zero, List.set_cons_succ]
            refine wpAnyH_done (by kernel_rfl) ?_ _
            have hxe := HT7.out.ext hHeld.1
            go_wp2
            go_ret
            exact ⟨rfl, hfin.out _ hxe.base⟩
          · have hme : (bu == 1099511627776) = false := by simpa using hmy
            have hmd : decide (bu = 1099511627776) = false := decide_eq_false hmy
            have hwr : IntKind.i64.wrap (bu + 1) = bu + 1 := IntWalk.i64_in _ (by omega)
            refine wp_region_held_drew (S := fun w' => Ext w7 w' ∧ w'.cell? ⟨w.heap.size, 0, none⟩ = some (.string an) ∧ w'.cell? ⟨w.heap.size + 1, 0, none⟩ = some (.string an) ∧ w'.cell? ⟨w.heap.size + 1, 1, none⟩ = some (.int .i64 ad) ∧ w'.cell? ⟨w.heap.size + 1, 2, none⟩ = some (.int .i64 bx) ∧ w'.cell? ⟨w.heap.size + 1, 3, none⟩ = some (.int .i64 bY) ∧ w'.cell? ⟨w.heap.size + 1, 4, none⟩ = some (.int .i64 bu) ∧ w'.cell? ⟨lb, off, none⟩ = some (.string an) ∧ w'.cell? ⟨lb, off + 1, none⟩ = some (.int .i64 ad) ∧ w'.cell? ⟨lb, off + 2, none⟩ = some (.int .i64 bx) ∧ w'.cell? ⟨lb, off + 3, none⟩ = some (.int .i64 bY) ∧ w'.cell? ⟨lb, off + 4, none⟩ = some (.int .i64 bu)) (by kernel_rfl) ⟨by (repeat' (first | exact Ext.refl _ | assumption | (apply Ext.after; assumption) | (refine Ext.alloc ?_ _) | (refine Ext.drew ?_) | (refine Ext.drewN ?_ _) | (refine Ext.setCell ?_ ?_ _) | (simp; done) | (simp; omega) | omega)), A0, B0, B1, B2, B3, B4, C0, C1, C2, C3, C4⟩ (fun hHeld => ?_)
            clear A0 B0 B1 B2 B3 B4 C0 C1 C2 C3 C4
            refine wpAnyH_take (i := 0) (oi := ?oiB20) (v := ?vB20) ?hiB20 ?hsB20 ?hfB20 ?hrB20 ?hQB20 ?hyB20 (by assumption) ?restB20
            case hiB20 => (simp only [List.getElem?_toArray, List.getElem?_cons_succ, List.getElem?_cons_zero]; rfl)
            case hsB20 => kernel_rfl
            case hfB20 => kernel_rfl
            case hrB20 => kernel_rfl
            case hQB20 => exact fun _ _ _ h => h
            case hyB20 => (refine Or.inl ⟨by kernel_rfl, ?_⟩; intro w hSw; (try dsimp only at hSw); go_simp; try with_reducible rfl)
            try simp only [Act.put, List.setIfInBounds_toArray, List.set_cons_zero, List.set_cons_succ]
            refine wpAnyH_take (i := 1) (oi := ?oiB21) (v := ?vB21) ?hiB21 ?hsB21 ?hfB21 ?hrB21 ?hQB21 ?hyB21 (by assumption) ?restB21
            case hiB21 => (simp only [List.getElem?_toArray, List.getElem?_cons_succ, List.getElem?_cons_zero]; rfl)
            case hsB21 => kernel_rfl
            case hfB21 => kernel_rfl
            case hrB21 => kernel_rfl
            case hQB21 => exact fun _ _ _ h => h
            case hyB21 => (refine Or.inl ⟨by kernel_rfl, ?_⟩; intro w hSw; (try dsimp only at hSw); go_simp; try with_reducible rfl)
            try simp only [Act.put, List.setIfInBounds_toArray, List.set_cons_zero, List.set_cons_succ]
            refine wpAnyH_take (i := 2) (oi := ?oiB22) (v := ?vB22) ?hiB22 ?hsB22 ?hfB22 ?hrB22 ?hQB22 ?hyB22 (by assumption) ?restB22
            case hiB22 => (simp only [List.getElem?_toArray, List.getElem?_cons_succ, List.getElem?_cons_zero]; rfl)
            case hsB22 => kernel_rfl
            case hfB22 => kernel_rfl
            case hrB22 => kernel_rfl
            case hQB22 => exact fun _ _ _ h => h
            case hyB22 => (refine Or.inl ⟨by kernel_rfl, ?_⟩; intro w hSw; (try dsimp only at hSw); go_simp; try with_reducible rfl)
            try simp only [Act.put, List.setIfInBounds_toArray, List.set_cons_zero, List.set_cons_succ]
            refine wpAnyH_take (i := 3) (oi := ?oiB23) (v := ?vB23) ?hiB23 ?hsB23 ?hfB23 ?hrB23 ?hQB23 ?hyB23 (by assumption) ?restB23
            case hiB23 => (simp only [List.getElem?_toArray, List.getElem?_cons_succ, List.getElem?_cons_zero]; rfl)
            case hsB23 => kernel_rfl
            case hfB23 => kernel_rfl
            case hrB23 => kernel_rfl
            case hQB23 => exact fun _ _ _ h => h
            case hyB23 => (refine Or.inl ⟨by kernel_rfl, ?_⟩; intro w hSw; (try dsimp only at hSw); go_simp; try with_reducible rfl)
            try simp only [Act.put, List.setIfInBounds_toArray, List.set_cons_zero, List.set_cons_succ]
            refine wpAnyH_take (i := 4) (oi := ?oiB24) (v := ?vB24) ?hiB24 ?hsB24 ?hfB24 ?hrB24 ?hQB24 ?hyB24 (by assumption) ?restB24
            case hiB24 => (simp only [List.getElem?_toArray, List.getElem?_cons_succ, List.getElem?_cons_zero]; rfl)
            case hsB24 => kernel_rfl
            case hfB24 => kernel_rfl
            case hrB24 => kernel_rfl
            case hQB24 => exact fun _ _ _ h => h
            case hyB24 => (refine Or.inl ⟨by kernel_rfl, ?_⟩; intro w hSw; (try dsimp only at hSw); go_simp; try with_reducible rfl)
            try simp only [Act.put, List.setIfInBounds_toArray, List.set_cons_zero, List.set_cons_succ]
            refine wpAnyH_take (i := 5) (oi := ?oiB25) (v := ?vB25) ?hiB25 ?hsB25 ?hfB25 ?hrB25 ?hQB25 ?hyB25 (by assumption) ?restB25
            case hiB25 => (simp only [List.getElem?_toArray, List.getElem?_cons_succ, List.getElem?_cons_zero]; rfl)
            case hsB25 => kernel_rfl
            case hfB25 => kernel_rfl
            case hrB25 => kernel_rfl
            case hQB25 => exact fun _ _ _ h => h
            case hyB25 => (refine Or.inl ⟨by kernel_rfl, ?_⟩; intro w hSw; (try dsimp only at hSw); go_simp; try with_reducible rfl)
            try simp only [Act.put, List.setIfInBounds_toArray, List.set_cons_zero, List.set_cons_succ]
            refine wpAnyH_take (i := 6) (oi := ?oiB26) (v := ?vB26) ?hiB26 ?hsB26 ?hfB26 ?hrB26 ?hQB26 ?hyB26 (by assumption) ?restB26
            case hiB26 => (simp only [List.getElem?_toArray, List.getElem?_cons_succ, List.getElem?_cons_zero]; rfl)
            case hsB26 => kernel_rfl
            case hfB26 => kernel_rfl
            case hrB26 => kernel_rfl
            case hQB26 => exact fun _ _ _ h => h
            case hyB26 => (refine Or.inl ⟨by kernel_rfl, ?_⟩; intro w hSw; (try dsimp only at hSw); go_simp; try with_reducible rfl)
            try simp only [Act.put, List.setIfInBounds_toArray, List.set_cons_zero, List.set_cons_succ]
            refine wpAnyH_take (i := 7) (oi := ?oiB27) (v := ?vB27) ?hiB27 ?hsB27 ?hfB27 ?hrB27 ?hQB27 ?hyB27 (by assumption) ?restB27
            case hiB27 => (simp only [List.getElem?_toArray, List.getElem?_cons_succ, List.getElem?_cons_zero]; rfl)
            case hsB27 => kernel_rfl
            case hfB27 => kernel_rfl
            case hrB27 => kernel_rfl
            case hQB27 => exact fun _ _ _ h => h
            case hyB27 => (refine Or.inl ⟨by kernel_rfl, ?_⟩; intro w hSw; (try dsimp only at hSw); go_simp; try with_reducible rfl)
            try simp only [Act.put, List.setIfInBounds_toArray, List.set_cons_zero, List.set_cons_succ]
            refine wpAnyH_take (i := 8) (oi := ?oiB28) (v := ?vB28) ?hiB28 ?hsB28 ?hfB28 ?hrB28 ?hQB28 ?hyB28 (by assumption) ?restB28
            case hiB28 => (simp only [List.getElem?_toArray, List.getElem?_cons_succ, List.getElem?_cons_zero]; rfl)
            case hsB28 => kernel_rfl
            case hfB28 => kernel_rfl
            case hrB28 => kernel_rfl
            case hQB28 => exact fun _ _ _ h => h
            case hyB28 => (refine Or.inl ⟨by kernel_rfl, ?_⟩; intro w hSw; (try dsimp only at hSw); go_simp; try with_reducible rfl)
            try simp only [Act.put, List.setIfInBounds_toArray, List.set_cons_zero, List.set_cons_succ]
            refine wpAnyH_take (i := 9) (oi := ?oiB29) (v := ?vB29) ?hiB29 ?hsB29 ?hfB29 ?hrB29 ?hQB29 ?hyB29 (by assumption) ?restB29
            case hiB29 => (simp only [List.getElem?_toArray, List.getElem?_cons_succ, List.getElem?_cons_zero]; rfl)
            case hsB29 => kernel_rfl
            case hfB29 => kernel_rfl
            case hrB29 => kernel_rfl
            case hQB29 => exact fun _ _ _ h => h
            case hyB29 => (refine Or.inl ⟨by kernel_rfl, ?_⟩; intro w hSw; (try dsimp only at hSw); go_simp; try with_reducible rfl)
            try simp only [Act.put, List.setIfInBounds_toArray, List.set_cons_zero, List.set_cons_succ]
            refine wpAnyH_take (i := 10) (oi := ?oiB210) (v := ?vB210) ?hiB210 ?hsB210 ?hfB210 ?hrB210 ?hQB210 ?hyB210 (by assumption) ?restB210
            case hiB210 => (simp only [List.getElem?_toArray, List.getElem?_cons_succ, List.getElem?_cons_zero]; rfl)
            case hsB210 => kernel_rfl
            case hfB210 => kernel_rfl
            case hrB210 => kernel_rfl
            case hQB210 => exact fun _ _ _ h => h
            case hyB210 => (refine Or.inl ⟨by kernel_rfl, ?_⟩; intro w hSw; (try dsimp only at hSw); go_simp; try with_reducible rfl)
            try simp only [Act.put, List.setIfInBounds_toArray, List.set_cons_zero, List.set_cons_succ]
            refine wpAnyH_take (i := 11) (oi := ?oiB211) (v := ?vB211) ?hiB211 ?hsB211 ?hfB211 ?hrB211 ?hQB211 ?hyB211 (by assumption) ?restB211
            case hiB211 => (simp only [List.getElem?_toArray, List.getElem?_cons_succ, List.getElem?_cons_zero]; rfl)
            case hsB211 => kernel_rfl
            case hfB211 => kernel_rfl
            case hrB211 => kernel_rfl
            case hQB211 => exact fun _ _ _ h => h
            case hyB211 => (refine Or.inl ⟨by kernel_rfl, ?_⟩; intro w hSw; (try dsimp only at hSw); go_simp; try with_reducible rfl)
            try simp only [Act.put, List.setIfInBounds_toArray, List.set_cons_zero, List.set_cons_succ]
            refine wpAnyH_take (i := 12) (oi := ?oiB212) (v := ?vB212) ?hiB212 ?hsB212 ?hfB212 ?hrB212 ?hQB212 ?hyB212 (by assumption) ?restB212
            case hiB212 => (simp only [List.getElem?_toArray, List.getElem?_cons_succ, List.getElem?_cons_zero]; rfl)
            case hsB212 => kernel_rfl
            case hfB212 => kernel_rfl
            case hrB212 => kernel_rfl
            case hQB212 => exact fun _ _ _ h => h
            case hyB212 => (refine Or.inl ⟨by kernel_rfl, ?_⟩; intro w hSw; (try dsimp only at hSw); go_simp; try with_reducible rfl)
            try simp only [Act.put, List.setIfInBounds_toArray, List.set_cons_zero, List.set_cons_succ]
            refine wpAnyH_take (i := 13) (oi := ?oiB213) (v := ?vB213) ?hiB213 ?hsB213 ?hfB213 ?hrB213 ?hQB213 ?hyB213 (by assumption) ?restB213
            case hiB213 => (simp only [List.getElem?_toArray, List.getElem?_cons_succ, List.getElem?_cons_zero]; rfl)
            case hsB213 => kernel_rfl
            case hfB213 => kernel_rfl
            case hrB213 => kernel_rfl
            case hQB213 => exact fun _ _ _ h => h
            case hyB213 => (refine Or.inl ⟨by kernel_rfl, ?_⟩; intro w hSw; (try dsimp only at hSw); go_simp; try with_reducible rfl)
            try simp only [Act.put, List.setIfInBounds_toArray, List.set_cons_zero, List.set_cons_succ]
            refine wpAnyH_take (i := 14) (oi := ?oiB214) (v := ?vB214) ?hiB214 ?hsB214 ?hfB214 ?hrB214 ?hQB214 ?hyB214 (by assumption) ?restB214
            case hiB214 => (simp only [List.getElem?_toArray, List.getElem?_cons_succ, List.getElem?_cons_zero]; rfl)
            case hsB214 => kernel_rfl
            case hfB214 => kernel_rfl
            case hrB214 => kernel_rfl
            case hQB214 => exact fun _ _ _ h => h
            case hyB214 => (refine Or.inl ⟨by kernel_rfl, ?_⟩; intro w hSw; (try dsimp only at hSw); go_simp; try with_reducible rfl)
            try simp only [Act.put, List.setIfInBounds_toArray, List.set_cons_zero, List.set_cons_succ]
            refine wpAnyH_take (i := 15) (oi := ?oiB215) (v := ?vB215) ?hiB215 ?hsB215 ?hfB215 ?hrB215 ?hQB215 ?hyB215 (by assumption) ?restB215
            case hiB215 => (simp only [List.getElem?_toArray, List.getElem?_cons_succ, List.getElem?_cons_zero]; rfl)
            case hsB215 => kernel_rfl
            case hfB215 => kernel_rfl
            case hrB215 => kernel_rfl
            case hQB215 => exact fun _ _ _ h => h
            case hyB215 => (refine Or.inl ⟨by kernel_rfl, ?_⟩; intro w hSw; (try dsimp only at hSw); go_simp; try with_reducible rfl)
            try simp only [Act.put, List.setIfInBounds_toArray, List.set_cons_zero, List.set_cons_succ]
            refine wpAnyH_ready (rs := [16]) (by kernel_rfl) (by simp) ?_
            refine AllReadyH.cons rfl (fun K hK => ?_) AllReadyH.nil
            go_simp
            go_at_call 16; have hcall := Nodes_inv an hs (bu) _ (HT7.out.ext hHeld.1); refine hcall.mono ?_; clear hcall; rintro e w8 ⟨v, rfl, hv, hx8, ht8⟩; rw [HN3.out] at hv; obtain ⟨na, nc, rfl⟩ := hv.shape; clear hv ht8
            go_wp2_with fail
            refine hK.out _ _ ⟨hHeld.1.trans hx8, hx8.cellAt hHeld.2.1, hx8.cellAt hHeld.2.2.1, hx8.cellAt hHeld.2.2.2.1, hx8.cellAt hHeld.2.2.2.2.1, hx8.cellAt hHeld.2.2.2.2.2.1, hx8.cellAt hHeld.2.2.2.2.2.2.1, hx8.cellAt hHeld.2.2.2.2.2.2.2.1, hx8.cellAt hHeld.2.2.2.2.2.2.2.2.1, hx8.cellAt hHeld.2.2.2.2.2.2.2.2.2.1, hx8.cellAt hHeld.2.2.2.2.2.2.2.2.2.2.1, hx8.cellAt hHeld.2.2.2.2.2.2.2.2.2.2.2⟩ (fun hHeld => ?_)
            clear hK K
            try simp only [Act.put, List.setIfInBounds_toArray, List.set_cons_zero, List.set_cons_succ]
            refine wpAnyH_take (i := 17) (oi := ?oiB217) (v := ?vB217) ?hiB217 ?hsB217 ?hfB217 ?hrB217 ?hQB217 ?hyB217 (by assumption) ?restB217
            case hiB217 => (simp only [List.getElem?_toArray, List.getElem?_cons_succ, List.getElem?_cons_zero]; rfl)
            case hsB217 => kernel_rfl
            case hfB217 => kernel_rfl
            case hrB217 => kernel_rfl
            case hQB217 => exact fun _ _ _ h => h
            case hyB217 => (refine Or.inl ⟨by kernel_rfl, ?_⟩; intro w hSw; (try dsimp only at hSw); go_simp; try with_reducible rfl)
            try simp only [Act.put, List.setIfInBounds_toArray, List.set_cons_zero, List.set_cons_succ]
            refine wpAnyH_take (i := 18) (oi := ?oiB218) (v := ?vB218) ?hiB218 ?hsB218 ?hfB218 ?hrB218 ?hQB218 ?hyB218 (by assumption) ?restB218
            case hiB218 => (simp only [List.getElem?_toArray, List.getElem?_cons_succ, List.getElem?_cons_zero]; rfl)
            case hsB218 => kernel_rfl
            case hfB218 => kernel_rfl
            case hrB218 => kernel_rfl
            case hQB218 => exact fun _ _ _ h => h
            case hyB218 => (refine Or.inl ⟨by kernel_rfl, ?_⟩; intro w hSw; (try dsimp only at hSw); go_simp; try with_reducible rfl)
            try simp only [Act.put, List.setIfInBounds_toArray, List.set_cons_zero, List.set_cons_succ]
            refine wpAnyH_take (i := 19) (oi := ?oiB219) (v := ?vB219) ?hiB219 ?hsB219 ?hfB219 ?hrB219 ?hQB219 ?hyB219 (by assumption) ?restB219
            case hiB219 => (simp only [List.getElem?_toArray, List.getElem?_cons_succ, List.getElem?_cons_zero]; rfl)
            case hsB219 => kernel_rfl
            case hfB219 => kernel_rfl
            case hrB219 => kernel_rfl
            case hQB219 => exact fun _ _ _ h => h
            case hyB219 => (refine Or.inl ⟨by kernel_rfl, ?_⟩; intro w hSw; (try dsimp only at hSw); go_simp; try with_reducible rfl)
            try simp only [Act.put, List.setIfInBounds_toArray, List.set_cons_zero, List.set_cons_succ]
            refine wpAnyH_take (i := 20) (oi := ?oiB220) (v := ?vB220) ?hiB220 ?hsB220 ?hfB220 ?hrB220 ?hQB220 ?hyB220 (by assumption) ?restB220
            case hiB220 => (simp only [List.getElem?_toArray, List.getElem?_cons_succ, List.getElem?_cons_zero]; rfl)
            case hsB220 => kernel_rfl
            case hfB220 => kernel_rfl
            case hrB220 => kernel_rfl
            case hQB220 => exact fun _ _ _ h => h
            case hyB220 => (refine Or.inl ⟨by kernel_rfl, ?_⟩; intro w hSw; (try dsimp only at hSw); go_simp; try with_reducible rfl)
            try simp only [Act.put, List.setIfInBounds_toArray, List.set_cons_zero, List.set_cons_succ]
            refine wpAnyH_take (i := 21) (oi := ?oiB221) (v := ?vB221) ?hiB221 ?hsB221 ?hfB221 ?hrB221 ?hQB221 ?hyB221 (by assumption) ?restB221
            case hiB221 => (simp only [List.getElem?_toArray, List.getElem?_cons_succ, List.getElem?_cons_zero]; rfl)
            case hsB221 => kernel_rfl
            case hfB221 => kernel_rfl
            case hrB221 => kernel_rfl
            case hQB221 => exact fun _ _ _ h => h
            case hyB221 => (refine Or.inl ⟨by kernel_rfl, ?_⟩; intro w hSw; (try dsimp only at hSw); go_simp; try with_reducible rfl)
            try simp only [Act.put, List.setIfInBounds_toArray, List.set_cons_zero, List.set_cons_succ]
            refine wpAnyH_take (i := 22) (oi := ?oiB222) (v := ?vB222) ?hiB222 ?hsB222 ?hfB222 ?hrB222 ?hQB222 ?hyB222 (by assumption) ?restB222
            case hiB222 => (simp only [List.getElem?_toArray, List.getElem?_cons_succ, List.getElem?_cons_zero]; rfl)
            case hsB222 => kernel_rfl
            case hfB222 => kernel_rfl
            case hrB222 => kernel_rfl
            case hQB222 => exact fun _ _ _ h => h
            case hyB222 => (refine Or.inl ⟨by kernel_rfl, ?_⟩; intro w hSw; (try dsimp only at hSw); go_simp; try with_reducible rfl)
            try simp only [Act.put, List.setIfInBounds_toArray, List.set_cons_zero, List.set_cons_succ]
            refine wpAnyH_take (i := 23) (oi := ?oiB223) (v := ?vB223) ?hiB223 ?hsB223 ?hfB223 ?hrB223 ?hQB223 ?hyB223 (by assumption) ?restB223
            case hiB223 => (simp only [List.getElem?_toArray, List.getElem?_cons_succ, List.getElem?_cons_zero]; rfl)
            case hsB223 => kernel_rfl
            case hfB223 => kernel_rfl
            case hrB223 => kernel_rfl
            case hQB223 => exact fun _ _ _ h => h
            case hyB223 => (refine Or.inl ⟨by kernel_rfl, ?_⟩; intro w hSw; (try dsimp only at hSw); go_simp; try with_reducible rfl)
            try simp only [Act.put, List.setIfInBounds_toArray, List.set_cons_zero, List.set_cons_succ]
            refine wpAnyH_take (i := 24) (oi := ?oiB224) (v := ?vB224) ?hiB224 ?hsB224 ?hfB224 ?hrB224 ?hQB224 ?hyB224 (by assumption) ?restB224
            case hiB224 => (simp only [List.getElem?_toArray, List.getElem?_cons_succ, List.getElem?_cons_zero]; rfl)
            case hsB224 => kernel_rfl
            case hfB224 => kernel_rfl
            case hrB224 => kernel_rfl
            case hQB224 => exact fun _ _ _ h => h
            case hyB224 => (refine Or.inl ⟨by kernel_rfl, ?_⟩; intro w hSw; (try dsimp only at hSw); go_simp; try with_reducible rfl)
            try simp only [Act.put, List.setIfInBounds_toArray, List.set_cons_zero, List.set_cons_succ]
            refine wpAnyH_take (i := 25) (oi := ?oiB225) (v := ?vB225) ?hiB225 ?hsB225 ?hfB225 ?hrB225 ?hQB225 ?hyB225 (by assumption) ?restB225
            case hiB225 => (simp only [List.getElem?_toArray, List.getElem?_cons_succ, List.getElem?_cons_zero]; rfl)
            case hsB225 => kernel_rfl
            case hfB225 => kernel_rfl
            case hrB225 => kernel_rfl
            case hQB225 => exact fun _ _ _ h => h
            case hyB225 => (refine Or.inl ⟨by kernel_rfl, ?_⟩; intro w hSw; (try dsimp only at hSw); go_simp; try with_reducible rfl)
            try simp only [Act.put, List.setIfInBounds_toArray, List.set_cons_zero, List.set_cons_succ]
            refine wpAnyH_take (i := 26) (oi := ?oiB226) (v := ?vB226) ?hiB226 ?hsB226 ?hfB226 ?hrB226 ?hQB226 ?hyB226 (by assumption) ?restB226
            case hiB226 => (simp only [List.getElem?_toArray, List.getElem?_cons_succ, List.getElem?_cons_zero]; rfl)
            case hsB226 => kernel_rfl
            case hfB226 => kernel_rfl
            case hrB226 => kernel_rfl
            case hQB226 => exact fun _ _ _ h => h
            case hyB226 => (refine Or.inl ⟨by kernel_rfl, ?_⟩; intro w hSw; (try dsimp only at hSw); go_simp; try with_reducible rfl)
            try simp only [Act.put, List.setIfInBounds_toArray, List.set_cons_zero, List.set_cons_succ]
            refine wpAnyH_take (i := 27) (oi := ?oiB227) (v := ?vB227) ?hiB227 ?hsB227 ?hfB227 ?hrB227 ?hQB227 ?hyB227 (by assumption) ?restB227
            case hiB227 => (simp only [List.getElem?_toArray, List.getElem?_cons_succ, List.getElem?_cons_zero]; rfl)
            case hsB227 => kernel_rfl
            case hfB227 => kernel_rfl
            case hrB227 => kernel_rfl
            case hQB227 => exact fun _ _ _ h => h
            case hyB227 => (refine Or.inl ⟨by kernel_rfl, ?_⟩; intro w hSw; (try dsimp only at hSw); go_simp; try with_reducible rfl)
            try simp only [Act.put, List.setIfInBounds_toArray, List.set_cons_zero, List.set_cons_succ]
            refine wpAnyH_take (i := 28) (oi := ?oiB228) (v := ?vB228) ?hiB228 ?hsB228 ?hfB228 ?hrB228 ?hQB228 ?hyB228 (by assumption) ?restB228
            case hiB228 => (simp only [List.getElem?_toArray, List.getElem?_cons_succ, List.getElem?_cons_zero]; rfl)
            case hsB228 => kernel_rfl
            case hfB228 => kernel_rfl
            case hrB228 => kernel_rfl
            case hQB228 => exact fun _ _ _ h => h
            case hyB228 => (refine Or.inl ⟨by kernel_rfl, ?_⟩; intro w hSw; (try dsimp only at hSw); go_simp; try with_reducible rfl)
            try simp only [Act.put, List.setIfInBounds_toArray, List.set_cons_zero, List.set_cons_succ]
            refine wpAnyH_take (i := 29) (oi := ?oiB229) (v := ?vB229) ?hiB229 ?hsB229 ?hfB229 ?hrB229 ?hQB229 ?hyB229 (by assumption) ?restB229
            case hiB229 => (simp only [List.getElem?_toArray, List.getElem?_cons_succ, List.getElem?_cons_zero]; rfl)
            case hsB229 => kernel_rfl
            case hfB229 => kernel_rfl
            case hrB229 => kernel_rfl
            case hQB229 => exact fun _ _ _ h => h
            case hyB229 => (refine Or.inl ⟨by kernel_rfl, ?_⟩; intro w hSw; (try dsimp only at hSw); go_simp; try with_reducible rfl)
            try simp only [Act.put, List.setIfInBounds_toArray, List.set_cons_zero, List.set_cons_succ]
            refine wpAnyH_take (i := 30) (oi := ?oiB230) (v := ?vB230) ?hiB230 ?hsB230 ?hfB230 ?hrB230 ?hQB230 ?hyB230 (by assumption) ?restB230
            case hiB230 => (simp only [List.getElem?_toArray, List.getElem?_cons_succ, List.getElem?_cons_zero]; rfl)
            case hsB230 => kernel_rfl
            case hfB230 => kernel_rfl
            case hrB230 => kernel_rfl
            case hQB230 => exact fun _ _ _ h => h
            case hyB230 => (refine Or.inl ⟨by kernel_rfl, ?_⟩; intro w hSw; (try dsimp only at hSw); go_simp; try with_reducible rfl)
            try simp only [Act.put, List.setIfInBounds_toArray, List.set_cons_zero, List.set_cons_succ]
            refine wpAnyH_ready (rs := [31]) (by kernel_rfl) (by simp) ?_
            refine AllReadyH.cons rfl (fun K hK => ?_) AllReadyH.nil
            go_simp
            go_at_call 16; have hcall := Nodes_inv an hs (bu + 1) _ (HT7.out.ext hHeld.1); refine hcall.mono ?_; clear hcall; rintro e w9 ⟨v, rfl, hv, hx9, ht8⟩; rw [HN4.out] at hv; obtain ⟨na, nc, rfl⟩ := hv.shape; clear hv ht8
            go_wp2_with fail
            refine hK.out _ _ ⟨hHeld.1.trans hx9, hx9.cellAt hHeld.2.1, hx9.cellAt hHeld.2.2.1, hx9.cellAt hHeld.2.2.2.1, hx9.cellAt hHeld.2.2.2.2.1, hx9.cellAt hHeld.2.2.2.2.2.1, hx9.cellAt hHeld.2.2.2.2.2.2.1, hx9.cellAt hHeld.2.2.2.2.2.2.2.1, hx9.cellAt hHeld.2.2.2.2.2.2.2.2.1, hx9.cellAt hHeld.2.2.2.2.2.2.2.2.2.1, hx9.cellAt hHeld.2.2.2.2.2.2.2.2.2.2.1, hx9.cellAt hHeld.2.2.2.2.2.2.2.2.2.2.2⟩ (fun hHeld => ?_)
            clear hK K
            try simp only [Act.put, List.setIfInBounds_toArray, List.set_cons_zero, List.set_cons_succ]
            refine wpAnyH_take (i := 32) (oi := ?oiB232) (v := ?vB232) ?hiB232 ?hsB232 ?hfB232 ?hrB232 ?hQB232 ?hyB232 (by assumption) ?restB232
            case hiB232 => (simp only [List.getElem?_toArray, List.getElem?_cons_succ, List.getElem?_cons_zero]; rfl)
            case hsB232 => kernel_rfl
            case hfB232 => kernel_rfl
            case hrB232 => kernel_rfl
            case hQB232 => exact fun _ _ _ h => h
            case hyB232 => (refine Or.inl ⟨by kernel_rfl, ?_⟩; intro w hSw; (try dsimp only at hSw); go_simp; try with_reducible rfl)
            try simp only [Act.put, List.setIfInBounds_toArray, List.set_cons_zero, List.set_cons_succ]
            refine wpAnyH_take (i := 33) (oi := ?oiB233) (v := ?vB233) ?hiB233 ?hsB233 ?hfB233 ?hrB233 ?hQB233 ?hyB233 (by assumption) ?restB233
            case hiB233 => (simp only [List.getElem?_toArray, List.getElem?_cons_succ, List.getElem?_cons_zero]; rfl)
            case hsB233 => kernel_rfl
            case hfB233 => kernel_rfl
            case hrB233 => kernel_rfl
            case hQB233 => exact fun _ _ _ h => h
            case hyB233 => (refine Or.inl ⟨by kernel_rfl, ?_⟩; intro w hSw; (try dsimp only at hSw); go_simp; try with_reducible rfl)
            try simp only [Act.put, List.setIfInBounds_toArray, List.set_cons_zero, List.set_cons_succ]
            refine wpAnyH_take (i := 34) (oi := ?oiB234) (v := ?vB234) ?hiB234 ?hsB234 ?hfB234 ?hrB234 ?hQB234 ?hyB234 (by assumption) ?restB234
            case hiB234 => (simp only [List.getElem?_toArray, List.getElem?_cons_succ, List.getElem?_cons_zero]; rfl)
            case hsB234 => kernel_rfl
            case hfB234 => kernel_rfl
            case hrB234 => kernel_rfl
            case hQB234 => exact fun _ _ _ h => h
            case hyB234 => (refine Or.inl ⟨by kernel_rfl, ?_⟩; intro w hSw; (try dsimp only at hSw); go_simp; try with_reducible rfl)
            try simp only [Act.put, List.setIfInBounds_toArray, List.set_cons_zero, List.set_cons_succ]
            refine wpAnyH_take (i := 35) (oi := ?oiB235) (v := ?vB235) ?hiB235 ?hsB235 ?hfB235 ?hrB235 ?hQB235 ?hyB235 (by assumption) ?restB235
            case hiB235 => (simp only [List.getElem?_toArray, List.getElem?_cons_succ, List.getElem?_cons_zero]; rfl)
            case hsB235 => kernel_rfl
            case hfB235 => kernel_rfl
            case hrB235 => kernel_rfl
            case hQB235 => exact fun _ _ _ h => h
            case hyB235 => (refine Or.inl ⟨by kernel_rfl, ?_⟩; intro w hSw; (try dsimp only at hSw); go_simp; try with_reducible rfl)
            try simp only [Act.put, List.setIfInBounds_toArray, List.set_cons_zero, List.set_cons_succ]
            refine wpAnyH_take (i := 36) (oi := ?oiB236) (v := ?vB236) ?hiB236 ?hsB236 ?hfB236 ?hrB236 ?hQB236 ?hyB236 (by assumption) ?restB236
            case hiB236 => (simp only [List.getElem?_toArray, List.getElem?_cons_succ, List.getElem?_cons_zero]; rfl)
            case hsB236 => kernel_rfl
            case hfB236 => kernel_rfl
            case hrB236 => kernel_rfl
            case hQB236 => exact fun _ _ _ h => h
            case hyB236 => (refine Or.inl ⟨by kernel_rfl, ?_⟩; intro w hSw; (try dsimp only at hSw); go_simp; try with_reducible rfl)
            try simp only [Act.put, List.setIfInBounds_toArray, List.set_cons_zero, List.set_cons_succ]
            refine wpAnyH_done (by kernel_rfl) ?_ _
            have hxe := HT7.out.ext hHeld.1
            go_wp2
            go_ret
            exact ⟨rfl, hfin.out _ hxe.base⟩
    · have HK : Hid (tickB now = false) := Lib.hid (by simpa using hk)
      by_cases t1 : now < 0
      · go_wp2_with (go_at_call 16; refine (Nodes_inv an hs now _ HT4.out).mono ?_; rintro e w5 ⟨v, rfl, hv, _, ht5⟩; (have hz : nodesL (oneT ⟨an, ad, ax, ay, au⟩) an.data.toList now = [] := by (unfold nodesL; rw [HK.out]; rfl)); rw [hz] at hv; obtain ⟨na, nc, rfl⟩ := hv.shape; clear hv; have HT5 := Lib.hid ht5; clear ht5)
        go_ret
        exact ⟨rfl, hfin.out _ HT5.out.base⟩
      · have t2 : (1099511627776 : Int) < now := by
          have := HK.out
          simp [tickB] at this; omega
        go_wp2_with (go_at_call 16; refine (Nodes_inv an hs now _ HT4.out).mono ?_; rintro e w5 ⟨v, rfl, hv, _, ht5⟩; (have hz : nodesL (oneT ⟨an, ad, ax, ay, au⟩) an.data.toList now = [] := by (unfold nodesL; rw [HK.out]; rfl)); rw [hz] at hv; obtain ⟨na, nc, rfl⟩ := hv.shape; clear hv; have HT5 := Lib.hid ht5; clear ht5)
        go_ret
        exact ⟨rfl, hfin.out _ HT5.out.base⟩
  · refine (ann_inv_no ⟨an, ad, ax, ay, au⟩ 0 (by simpa using hm) _ HT3.out).mono ?_
    rintro e w4 ⟨rfl, ht4⟩
    have HT4 := Lib.hid ht4
    clear ht4 hm
    go_wp2_with (go_at_call 15; refine (Len_inv (by omega) 0 _ HT4.out [] rising_nil (fun k => by simp [nodes_none])).mono ?_; rintro e w5 ⟨rfl, _, ht5⟩; have HT5 := Lib.hid ht5; clear ht5)
    go_ret
    exact ⟨rfl, hfin.out _ HT5.out.base⟩

end Go.Proofs.Ytleogddijlabdaa
