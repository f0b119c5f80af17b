/- Announce, walked: what is taken, of a name that does not count yet. -/
import Derived.Test.YtleogddijlabdaaDoorTrkJ
set_option linter.unusedSimpArgs false
set_option linter.unusedVariables false
namespace Go.Proofs.YtleogddijlabdaaDoor
open Go.RowKit Go.Maps

set_option maxRecDepth 100000 in
set_option maxHeartbeats 4000000 in
theorem ann_new {S : Nat → Prop} {tb n : Nat} {room : Int} {T : List UInt8 → Nat → Option NoteV} (hn : n ≤ 1000) (a : NoteV) (now : Int) (hm : mayB a now = true) (w : World) {mb : Nat} {F : List UInt8 → Option Nat} {D : DataW Value} (h : TabAt S w tb mb n room F D T)
    (ns : List (List UInt8)) (hr : Rising ns) (hns : ∀ k, k ∈ ns ↔ nodesL T k now ≠ []) (hz : nodesL T a.name.data.toList now = []) (hf : ns.length < room) :
    Calls Tryd.prog 8 #[.pointer (some ⟨tb, 0, none⟩), a.val, .int .i64 now] w fun e w' => AnnOk S w w' tb n room T a now e := by
  obtain ⟨s, nd, x, y, u⟩ := a
  have H := Lib.hid h
  unfold NoteV.val
  have HM := Lib.hid hm
  have hs : s.size ≤ 1000 := by
    have := hm
    simp [mayB] at this; omega
  clear hm
  go_enter Tryd.func8, Tryd.ntmps8
  go_wp2_with (go_at_call 20; refine (may_any _ _ _ _ _ _ _).mono ?_; rintro e w1 ⟨rfl, hx1⟩; rw [HM.out])
  have k0 : w1.cell? ⟨w.heap.size, 0, none⟩ = some (.string s) := hx1.cellAt (news_of w #[.string s, .int .i64 nd, .int .i64 x, .int .i64 y, .int .i64 u] 25 0 _ rfl)
  have hb1 : Ext w w1 := by (repeat' (first | exact Ext.refl _ | assumption | (apply Ext.after; assumption) | (refine Ext.alloc ?_ _) | (refine Ext.drew ?_) | (refine Ext.drewN ?_ _) | (refine Ext.setCell ?_ ?_ _) | (simp; done) | (simp; omega) | omega))
  have k1 := hb1.cellAt h.room
  have HX1 := Lib.hid hb1
  have HA1 := Lib.hid hx1
  clear hx1 hb1
  have HN := Lib.hid hn
  clear hn
  have HNS := Lib.hid hns
  have HR := Lib.hid hr
  clear h hns hr
  have hfd : decide (room ≤ (ns.length : Int)) = false := by simp; omega
  go_region_held3 (fun w' => Ext w1 w' ∧ w'.cell? ⟨w.heap.size, 0, none⟩ = some (.string s) ∧ w'.cell? ⟨tb, 0, none⟩ = some (.int .i64 room))
    ((go_split_ands; refine ⟨?_, ?_, ?_⟩ <;> (first | assumption | (exact hx2.cellAt (by assumption)) | go_keep | ((repeat' (first | exact Ext.refl _ | assumption | (apply Ext.after; assumption) | (refine Ext.alloc ?_ _) | (refine Ext.drew ?_) | (refine Ext.drewN ?_ _) | (refine Ext.setCell ?_ ?_ _) | (simp; done) | (simp; omega) | omega)); done))))
    ((first | (go_at_call 11; refine (Nodes_at s hs now _ (H.out.ext (by have := HX1.out; (repeat' (first | exact Ext.refl _ | assumption | (apply Ext.after; assumption) | (refine Ext.alloc ?_ _) | (refine Ext.drew ?_) | (refine Ext.drewN ?_ _) | (refine Ext.setCell ?_ ?_ _) | (simp; done) | (simp; omega) | omega))))).mono ?_; rintro e w2 ⟨v, rfl, hv, hx2⟩; rw [hz] at hv; obtain ⟨na, nc, rfl⟩ := hv.shape; clear hv) | (go_at_call 12; refine (Len_any HN.out now _ ⟨_, _, _, H.out.ext (by have := HX1.out; (repeat' (first | exact Ext.refl _ | assumption | (apply Ext.after; assumption) | (refine Ext.alloc ?_ _) | (refine Ext.drew ?_) | (refine Ext.drewN ?_ _) | (refine Ext.setCell ?_ ?_ _) | (simp; done) | (simp; omega) | omega)))⟩).mono ?_; rintro e w2 ⟨l, rfl, hx2, g1, g2⟩; obtain rfl := rising_uniq HR.out g1 (fun k => (HNS.out k).trans (g2 k).symm); clear g1 g2)))
  have hx12 : Ext w1 w2 := by (go_split_ands; assumption)
  have HC : Hid (∀ j u', (⟨s, nd, x, y, u⟩ : NoteV).list[j]? = some u' → w2.cell? ⟨w.heap.size, j, none⟩ = some u') := Lib.hid (fun j u' (hu : (⟨s, nd, x, y, u⟩ : NoteV).list[j]? = some u') => by
    have := hx12.cellAt (HA1.out.cellAt (news_of w #[.string s, .int .i64 nd, .int .i64 x, .int .i64 y, .int .i64 u] 25 j u' hu))
    cases j with
    | zero => simpa [Addr.add] using this
    | succ j => simpa [Addr.add] using this)
  have HT2 := Lib.hid (H.out.ext (HX1.out.trans hx12))
  have HX2 := Lib.hid (HX1.out.trans hx12)
  have hnd : 1 ≤ nd ∧ nd ≤ 15 := by
    have := HM.out
    simp [mayB, peerB] at this; omega
  obtain ⟨hnd1, hnd2⟩ := hnd
  have HS := Lib.hid hs
  clear hx12 hx2 k0 k1
  go_wp2_with (go_at_call 21; refine (sweep_tab now _ HT2.out).mono ?_; rintro e w3 ⟨rfl, S', F', D', ht3, hx3, hsub⟩)
  have hxb : ¬ S w.heap.size := fun e => by have := H.out.lt e; omega
  have c0 : w3.cell? ⟨w.heap.size, 0, none⟩ = some (.string s) := hx3.cellAt hxb (HC.out 0 _ rfl)
  have c1 : w3.cell? ⟨w.heap.size, 1, none⟩ = some (.int .i64 nd) := hx3.cellAt hxb (HC.out 1 _ rfl)
  have m1 := ht3.mp
  have hl := fun n => (ht3.map.ext ((Ext.refl w3).drewN n)).lookup s hs
  have HT3 := Lib.hid ht3
  have HX3 := Lib.hid hx3
  have HSB := Lib.hid hsub
  clear ht3 hx3 hsub
  cases hF : F' s.data.toList with
  | some b =>
    rw [hF] at hl
    simp only [ptrTo] at hl
    have hnn : (0 : Int) ≤ nd := by omega
    have hnm : nd < 16 := by omega
    have HF := Lib.hid hF
    clear hF
    go_quiet (fail)
    go_wp2_with fail
    have m4 : (w3.drewN nq).cell? ⟨tb, 1, none⟩ = some (.map (some mb)) := by simpa using m1
    have c4 : (w3.drewN nq).cell? ⟨w.heap.size, 0, none⟩ = some (.string s) := by simpa using c0
    have d4 : (w3.drewN nq).cell? ⟨w.heap.size, 1, none⟩ = some (.int .i64 nd) := by simpa using c1
    have HX4 := Lib.hid ((Ext.refl w3).drewN nq)
    have hl4 := hl nq
    have hl5 := (HT3.out.map.ext (HX4.out.drew)).lookup s HS.out
    rw [HF.out] at hl5
    simp only [ptrTo] at hl5
    clear m1 c0 c1 hl
    generalize w3.drewN nq = w4 at *
    have hxw : Ext w3 w4.drew := HX4.out.drew
    have HTT := Lib.hid (HT3.out.ext hxw)
    have HFF := Lib.hid HF.out
    have HNB : Hid (¬ S' w.heap.size) := Lib.hid (fun e => hxb (HSB.out _ e))
    have HCC : Hid (∀ j u', (⟨s, nd, x, y, u⟩ : NoteV).list[j]? = some u' → w4.drew.cell? ⟨w.heap.size, j, none⟩ = some u') := Lib.hid (fun j u' hu => hxw.cellAt (HX3.out.cellAt hxb (HC.out j u' hu)))
    go_still_tail 11, (by kernel_rfl)
    change wpList _ _ _ _ _ w4.drew
    have hent8 := (HTT.out.ent _ b HFF.out)
    obtain ⟨q8, e8, f8, _⟩ := hent8.at nd.toNat (by omega)
    have hfin := HTT.out.put HFF.out (i := nd.toNat) (by omega) (a := ⟨s, nd, x, y, u⟩) HNB.out (fun j u' hu => HCC.out j u' hu)
    have HFIN := Lib.hid hfin
    clear hfin hent8
    go_wp2_with fail
    go_ret
    refine ⟨rfl, _, n, ⟨_, _, _, HFIN.out⟩, by omega, ?_, ?_⟩
    · exact (((ExtS.of_ext HX2.out).trans HX3.out).trans (ExtS.of_ext hxw)).trans (ExtS.of_but ((ExtBut.refl b _).setCell _ _) (Or.inl (HSB.out b ((HTT.out.own b).2 (Or.inr ⟨_, HFF.out⟩)))))
    · exact fun b hb => Or.inl (HSB.out b hb)
  | none =>
    rw [hF] at hl
    simp only [ptrTo] at hl
    have HF := Lib.hid hF
    clear hF
    go_quiet (fail)
    go_wp2_with fail
    have m4 : (w3.drewN nq).cell? ⟨tb, 1, none⟩ = some (.map (some mb)) := by simpa using m1
    have c4 : (w3.drewN nq).cell? ⟨w.heap.size, 0, none⟩ = some (.string s) := by simpa using c0
    have d4 : (w3.drewN nq).cell? ⟨w.heap.size, 1, none⟩ = some (.int .i64 nd) := by simpa using c1
    have HX4 := Lib.hid ((Ext.refl w3).drewN nq)
    clear m1 c0 c1 hl
    generalize w3.drewN nq = w4 at *
    have hx5 : Ext w3 (w4.alloc (.cells #[.pointer none, .pointer none, .pointer none, .pointer none, .pointer none, .pointer none, .pointer none, .pointer none, .pointer none, .pointer none, .pointer none, .pointer none, .pointer none, .pointer none, .pointer none, .pointer none] 66)).drew := by have := HX4.out; (repeat' (first | exact Ext.refl _ | assumption | (apply Ext.after; assumption) | (refine Ext.alloc ?_ _) | (refine Ext.drew ?_) | (refine Ext.drewN ?_ _) | (refine Ext.setCell ?_ ?_ _) | (simp; done) | (simp; omega) | omega))
    have hsz4 : w3.heap.size ≤ w4.heap.size := HX4.out.size
    obtain ⟨w5, D5, hrun, hmap5, hg5⟩ := (HT3.out.map.ext hx5).update s hs (by have := HN.out; omega) w4.heap.size
    have HX5 := Lib.hid hx5
    have HM5 := Lib.hid hmap5
    have hmS : S' mb := (HT3.out.own mb).2 (Or.inl rfl)
    have hmlt := HT3.out.lt hmS
    have hxlt : w.heap.size < w3.heap.size := World.block_lt_of_cell? w3 _ (HX3.out.cellAt hxb (HC.out 0 _ rfl))
    have htlt : tb < w3.heap.size := World.block_lt_of_cell? w3 _ HT3.out.mp
    have hg6 := ExtS.of_grown (S := S') hg5 (Or.inl hmS)
    have hxS : ¬ S' w.heap.size := fun e => hxb (HSB.out _ e)
    have m5 : w5.cell? ⟨tb, 1, none⟩ = some (.map (some mb)) := hg6.cellAt HT3.out.tbS (hx5.cellAt HT3.out.mp)
    have c5 : w5.cell? ⟨w.heap.size, 0, none⟩ = some (.string s) := hg6.cellAt hxS (hx5.cellAt (HX3.out.cellAt hxb (HC.out 0 _ rfl)))
    have d5 : w5.cell? ⟨w.heap.size, 1, none⟩ = some (.int .i64 nd) := hg6.cellAt hxS (hx5.cellAt (HX3.out.cellAt hxb (HC.out 1 _ rfl)))
    have HG5 := Lib.hid hg5
    have HG6 := Lib.hid hg6
    clear hx5 hmap5 hg5 hg6
    go_region_held3 (fun w' => w'.cell? ⟨w.heap.size, 0, none⟩ = some (.string s) ∧ w'.cell? ⟨tb, 1, none⟩ = some (.map (some mb)))
      ((go_split_ands; refine ⟨?_, ?_⟩ <;> (first | assumption | go_keep)))
      (fail)
    have hW : ((w4.alloc (.cells #[.pointer none, .pointer none, .pointer none, .pointer none, .pointer none, .pointer none, .pointer none, .pointer none, .pointer none, .pointer none, .pointer none, .pointer none, .pointer none, .pointer none, .pointer none, .pointer none] 66)).drew).heap[w4.heap.size]? = some (.cells (ptrs fun _ => none) 66 (0, 0)) := (heap_alloc_new w4 _).trans rfl
    have hfr := HT3.out.fresh HF.out (by simpa using HS.out) HX5.out hsz4 hW HM5.out HG5.out
    have HTT := Lib.hid hfr
    have hl6 := HM5.out.lookup s HS.out
    have hl7 := (HM5.out.ext ((Ext.refl w5).drew)).lookup s HS.out
    rw [if_pos rfl] at hl6 hl7
    simp only [ptrTo] at hl6 hl7
    have HNB : Hid (¬ (S' w.heap.size ∨ w.heap.size = w4.heap.size)) := Lib.hid (fun e => e.elim hxS (fun e => by omega))
    have HCC : Hid (∀ j u', (⟨s, nd, x, y, u⟩ : NoteV).list[j]? = some u' → w5.drew.cell? ⟨w.heap.size, j, none⟩ = some u') := Lib.hid (fun j u' hu => HG6.out.cellAt hxS (HX5.out.cellAt (HX3.out.cellAt hxb (HC.out j u' hu))))
    clear hfr hW m4 c4 d4
    have hnn : (0 : Int) ≤ nd := by omega
    have hnm : nd < 16 := by omega
    go_wp2_with fail
    go_still_tail 11, (by kernel_rfl)
    change wpList _ _ _ _ _ w5.drew
    have hTd := HTT.out.ext ((Ext.refl w5).drew)
    obtain ⟨q8, e8, f8, _⟩ := (hTd.ent s.data.toList w4.heap.size (by rw [if_pos rfl])).at nd.toNat (by omega)
    have hfin := hTd.put (k := s.data.toList) (b := w4.heap.size) (by rw [if_pos rfl]) (i := nd.toNat) (by omega) (a := ⟨s, nd, x, y, u⟩) HNB.out (fun j u' hu => HCC.out j u' hu)
    have HFIN := Lib.hid hfin
    clear hfin hTd
    go_wp2_with fail
    go_ret
    refine ⟨rfl, _, n + 1, ⟨_, _, _, HFIN.out⟩, by omega, ?_, ?_⟩
    · have h0 := (((ExtS.of_ext HX2.out).trans HX3.out).trans (ExtS.of_ext HX5.out))
      have h1 : ExtS S w w5 := h0.trans (ExtS.of_grown HG5.out (Or.inl (HSB.out mb hmS)))
      exact (h1.trans (ExtS.of_ext ((Ext.refl w5).drew))).set_new (by have := h0.size; have := HX2.out.size; have := HX3.out.size; omega) _ _
    · intro b hb
      rcases hb with hb | rfl
      · exact Or.inl (HSB.out b hb)
      · exact Or.inr (by have := HX2.out.size; have := HX3.out.size; omega)

end Go.Proofs.YtleogddijlabdaaDoor
