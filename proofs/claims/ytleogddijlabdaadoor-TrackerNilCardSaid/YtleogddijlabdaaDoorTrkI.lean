/- Announce, walked: what is refused. -/
import Derived.Test.YtleogddijlabdaaDoorTrkH
import Derived.StillTailTactics
set_option linter.unusedSimpArgs false
set_option linter.unusedVariables false
namespace Go.Proofs.YtleogddijlabdaaDoor
open Go.RowKit Go.Maps

set_option maxHeartbeats 1000000 in
theorem ann_no (tb : Nat) (a : NoteV) (now : Int) (hm : mayB a now = false) (w : World) :
    Calls Tryd.prog 8 #[.pointer (some ⟨tb, 0, none⟩), a.val, .int .i64 now] w fun e w' => e = .returned (.int .i64 1) ∧ Ext w w' := by
  obtain ⟨s, nd, x, y, u⟩ := a
  unfold NoteV.val
  have HM := Lib.hid hm
  clear hm
  go_enter Tryd.func8, Tryd.ntmps8
  go_wp2_with (go_at_call 20; refine (may_any _ _ _ _ _ _ _).mono ?_; rintro e w1 ⟨rfl, hx1⟩; rw [HM.out])
  go_ret
  exact ⟨rfl, by (repeat' (first | exact Ext.refl _ | assumption | (apply Ext.after; assumption) | (refine Ext.alloc ?_ _) | (refine Ext.drew ?_) | (refine Ext.drewN ?_ _) | (refine Ext.setCell ?_ ?_ _) | (simp; done) | (simp; omega) | omega))⟩

theorem rising_uniq {l m : List (List UInt8)} (h1 : Rising l) (h2 : Rising m) (h : ∀ k, k ∈ l ↔ k ∈ m) : l = m := by
  have d1 : l.Nodup := h1.imp fun h => h.2
  have d2 : m.Nodup := h2.imp fun h => h.2
  exact ((List.perm_ext_iff_of_nodup d1 d2).2 h).eq_of_pairwise (fun a b _ _ x y => List.le_antisymm x.1 y.1) h1 h2

set_option maxHeartbeats 2000000 in
theorem ann_full {S : Nat → Prop} {tb n : Nat} {room : Int} {T : List UInt8 → Nat → Option NoteV} (hn : n ≤ 1000) (a : NoteV) (now : Int) (hm : mayB a now = true) (w : World) {mb : Nat} {F : List UInt8 → Option Nat} {D : DataW Value} (h : TabAt S w tb mb n room F D T)
    (ns : List (List UInt8)) (hr : Rising ns) (hns : ∀ k, k ∈ ns ↔ nodesL T k now ≠ []) (hz : nodesL T a.name.data.toList now = []) (hf : room ≤ ns.length) :
    Calls Tryd.prog 8 #[.pointer (some ⟨tb, 0, none⟩), a.val, .int .i64 now] w fun e w' => e = .returned (.int .i64 6) ∧ Ext w w' := by
  obtain ⟨s, nd, x, y, u⟩ := a
  have H := Lib.hid h
  unfold NoteV.val
  have HM := Lib.hid hm
  have hs : s.size ≤ 1000 := by
    have := hm
    simp [mayB] at this; omega
  clear hm
  go_enter Tryd.func8, Tryd.ntmps8
  go_wp2_with (go_at_call 20; refine (may_any _ _ _ _ _ _ _).mono ?_; rintro e w1 ⟨rfl, hx1⟩; rw [HM.out])
  have k0 : w1.cell? ⟨w.heap.size, 0, none⟩ = some (.string s) := hx1.cellAt (news_of w #[.string s, .int .i64 nd, .int .i64 x, .int .i64 y, .int .i64 u] 25 0 _ rfl)
  have hb1 : Ext w w1 := by (repeat' (first | exact Ext.refl _ | assumption | (apply Ext.after; assumption) | (refine Ext.alloc ?_ _) | (refine Ext.drew ?_) | (refine Ext.drewN ?_ _) | (refine Ext.setCell ?_ ?_ _) | (simp; done) | (simp; omega) | omega))
  have k1 := hb1.cellAt h.room
  have HX1 := Lib.hid hb1
  have HA1 := Lib.hid hx1
  clear hx1 hb1
  have HN := Lib.hid hn
  clear hn
  have HNS := Lib.hid hns
  have HR := Lib.hid hr
  clear h hns hr
  go_region_held3 (fun w' => Ext w1 w' ∧ w'.cell? ⟨w.heap.size, 0, none⟩ = some (.string s) ∧ w'.cell? ⟨tb, 0, none⟩ = some (.int .i64 room))
    ((go_split_ands; refine ⟨?_, ?_, ?_⟩ <;> (first | assumption | (exact hx2.cellAt (by assumption)) | go_keep | ((repeat' (first | exact Ext.refl _ | assumption | (apply Ext.after; assumption) | (refine Ext.alloc ?_ _) | (refine Ext.drew ?_) | (refine Ext.drewN ?_ _) | (refine Ext.setCell ?_ ?_ _) | (simp; done) | (simp; omega) | omega)); done))))
    ((first | (go_at_call 11; refine (Nodes_at s hs now _ (H.out.ext (by have := HX1.out; (repeat' (first | exact Ext.refl _ | assumption | (apply Ext.after; assumption) | (refine Ext.alloc ?_ _) | (refine Ext.drew ?_) | (refine Ext.drewN ?_ _) | (refine Ext.setCell ?_ ?_ _) | (simp; done) | (simp; omega) | omega))))).mono ?_; rintro e w2 ⟨v, rfl, hv, hx2⟩; rw [hz] at hv; obtain ⟨na, nc, rfl⟩ := hv.shape; clear hv) | (go_at_call 12; refine (Len_any HN.out now _ ⟨_, _, _, H.out.ext (by have := HX1.out; (repeat' (first | exact Ext.refl _ | assumption | (apply Ext.after; assumption) | (refine Ext.alloc ?_ _) | (refine Ext.drew ?_) | (refine Ext.drewN ?_ _) | (refine Ext.setCell ?_ ?_ _) | (simp; done) | (simp; omega) | omega)))⟩).mono ?_; rintro e w2 ⟨l, rfl, hx2, g1, g2⟩; obtain rfl := rising_uniq HR.out g1 (fun k => (HNS.out k).trans (g2 k).symm); clear g1 g2)))
  go_split_ands
  have hx : Ext w w2 := HX1.out.trans (by assumption)
  go_wp2
  go_ret
  exact ⟨rfl, hx⟩

end Go.Proofs.YtleogddijlabdaaDoor
