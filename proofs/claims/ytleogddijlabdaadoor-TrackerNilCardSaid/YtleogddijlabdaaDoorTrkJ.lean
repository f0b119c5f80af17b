/- Announce, walked: what is taken. -/
import Derived.Test.YtleogddijlabdaaDoorTrkP
set_option linter.unusedSimpArgs false
set_option linter.unusedVariables false
namespace Go.Proofs.YtleogddijlabdaaDoor
open Go.RowKit Go.Maps

/-- What a table knows behind an announcement that was taken. -/
def annT (T : List UInt8 → Nat → Option NoteV) (a : NoteV) (now : Int) : List UInt8 → Nat → Option NoteV :=
  fun k i => if k = a.name.data.toList ∧ i = a.node.toNat then some a else sweptA (T k) now i

def AnnOk (S : Nat → Prop) (w w' : World) (tb n : Nat) (room : Int) (T : List UInt8 → Nat → Option NoteV) (a : NoteV) (now : Int) (e : Ending) : Prop :=
  e = .returned (.int .i64 0) ∧ ∃ S' n', Tab S' w' tb n' room (annT T a now) ∧ n' ≤ n + 1 ∧ ExtS S w w' ∧ (∀ b, S' b → S b ∨ w.heap.size ≤ b)

set_option maxRecDepth 100000 in
set_option maxHeartbeats 4000000 in
theorem ann_some {S : Nat → Prop} {tb n : Nat} {room : Int} {T : List UInt8 → Nat → Option NoteV} (hn : n ≤ 1000) (a : NoteV) (now : Int) (hm : mayB a now = true) (w : World) {mb : Nat} {F : List UInt8 → Option Nat} {D : DataW Value} (h : TabAt S w tb mb n room F D T)
    (ns : List (List UInt8)) (hr : Rising ns) (hns : ∀ k, k ∈ ns ↔ nodesL T k now ≠ []) (hz : nodesL T a.name.data.toList now ≠ []) :
    Calls Tryd.prog 8 #[.pointer (some ⟨tb, 0, none⟩), a.val, .int .i64 now] w fun e w' => AnnOk S w w' tb n room T a now e := by
  obtain ⟨s, nd, x, y, u⟩ := a
  have H := Lib.hid h
  unfold NoteV.val
  have HM := Lib.hid hm
  have hs : s.size ≤ 1000 := by
    have := hm
    simp [mayB] at this; omega
  clear hm
  go_enter Tryd.func8, Tryd.ntmps8
  go_wp2_with (go_at_call 20; refine (may_any _ _ _ _ _ _ _).mono ?_; rintro e w1 ⟨rfl, hx1⟩; rw [HM.out])
  have k0 : w1.cell? ⟨w.heap.size, 0, none⟩ = some (.string s) := hx1.cellAt (news_of w #[.string s, .int .i64 nd, .int .i64 x, .int .i64 y, .int .i64 u] 25 0 _ rfl)
  have hb1 : Ext w w1 := by (repeat' (first | exact Ext.refl _ | assumption | (apply Ext.after; assumption) | (refine Ext.alloc ?_ _) | (refine Ext.drew ?_) | (refine Ext.drewN ?_ _) | (refine Ext.setCell ?_ ?_ _) | (simp; done) | (simp; omega) | omega))
  have k1 := hb1.cellAt h.room
  have HX1 := Lib.hid hb1
  have HA1 := Lib.hid hx1
  clear hx1 hb1
  have HN := Lib.hid hn
  clear hn
  have HNS := Lib.hid hns
  have HR := Lib.hid hr
  clear h hns hr
  obtain ⟨q, ql, hq⟩ : ∃ q ql, nodesL T s.data.toList now = q :: ql := by
    cases hh : nodesL T s.data.toList now with
    | nil => exact absurd hh hz
    | cons q ql => exact ⟨q, ql, rfl⟩
  clear hz
  have hd1 : ((ql.length : Int) + 1 == 0) = false := by
    have : (ql.length : Int) + 1 ≠ 0 := by omega
    simpa using this
  have hd2 : decide ((ql.length : Int) + 1 = 0) = false := by simp; omega
  refine wp_region_held_drew (S := fun w' => Ext w1 w' ∧ w'.cell? ⟨w.heap.size, 0, none⟩ = some (.string s)) (by kernel_rfl) ⟨by (repeat' (first | exact Ext.refl _ | assumption | (apply Ext.after; assumption) | (refine Ext.alloc ?_ _) | (refine Ext.drew ?_) | (refine Ext.drewN ?_ _) | (refine Ext.setCell ?_ ?_ _) | (simp; done) | (simp; omega) | omega)), k0⟩ (fun hHeld => ?_)
  refine wpAnyH_take (i := 0) (oi := ?oiX0) (v := ?vX0) ?hiX0 ?hsX0 ?hfX0 ?hrX0 ?hQX0 ?hyX0 (by assumption) ?restX0
  case hiX0 => (simp only [List.getElem?_toArray, List.getElem?_cons_succ, List.getElem?_cons_zero]; rfl)
  case hsX0 => kernel_rfl
  case hfX0 => kernel_rfl
  case hrX0 => kernel_rfl
  case hQX0 => exact fun _ _ _ h => h
  case hyX0 => (refine Or.inl ⟨by kernel_rfl, ?_⟩; intro w hSw; (try dsimp only at hSw); go_simp; try with_reducible rfl)
  try simp only [Act.put, List.setIfInBounds_toArray, List.set_cons_zero, List.set_cons_succ]
  refine wpAnyH_take (i := 1) (oi := ?oiX1) (v := ?vX1) ?hiX1 ?hsX1 ?hfX1 ?hrX1 ?hQX1 ?hyX1 (by assumption) ?restX1
  case hiX1 => (simp only [List.getElem?_toArray, List.getElem?_cons_succ, List.getElem?_cons_zero]; rfl)
  case hsX1 => kernel_rfl
  case hfX1 => kernel_rfl
  case hrX1 => kernel_rfl
  case hQX1 => exact fun _ _ _ h => h
  case hyX1 => (refine Or.inl ⟨by kernel_rfl, ?_⟩; intro w hSw; (try dsimp only at hSw); go_simp; try with_reducible rfl)
  try simp only [Act.put, List.setIfInBounds_toArray, List.set_cons_zero, List.set_cons_succ]
  refine wpAnyH_take (i := 2) (oi := ?oiX2) (v := ?vX2) ?hiX2 ?hsX2 ?hfX2 ?hrX2 ?hQX2 ?hyX2 (by assumption) ?restX2
  case hiX2 => (simp only [List.getElem?_toArray, List.getElem?_cons_succ, List.getElem?_cons_zero]; rfl)
  case hsX2 => kernel_rfl
  case hfX2 => kernel_rfl
  case hrX2 => kernel_rfl
  case hQX2 => exact fun _ _ _ h => h
  case hyX2 => (refine Or.inl ⟨by kernel_rfl, ?_⟩; intro w hSw; (try dsimp only at hSw); go_simp; try with_reducible rfl)
  try simp only [Act.put, List.setIfInBounds_toArray, List.set_cons_zero, List.set_cons_succ]
  refine wpAnyH_take (i := 3) (oi := ?oiX3) (v := ?vX3) ?hiX3 ?hsX3 ?hfX3 ?hrX3 ?hQX3 ?hyX3 (by assumption) ?restX3
  case hiX3 => (simp only [List.getElem?_toArray, List.getElem?_cons_succ, List.getElem?_cons_zero]; rfl)
  case hsX3 => kernel_rfl
  case hfX3 => kernel_rfl
  case hrX3 => kernel_rfl
  case hQX3 => exact fun _ _ _ h => h
  case hyX3 => (refine Or.inl ⟨by kernel_rfl, ?_⟩; intro w hSw; (try dsimp only at hSw); go_simp; try with_reducible rfl)
  try simp only [Act.put, List.setIfInBounds_toArray, List.set_cons_zero, List.set_cons_succ]
  refine wpAnyH_ready (rs := [4]) (by kernel_rfl) (by simp) ?_
  refine AllReadyH.cons rfl (fun K hK => ?_) AllReadyH.nil
  go_simp
  go_at_call 11; refine (Nodes_at s hs now _ (H.out.ext (by have := HX1.out; (repeat' (first | exact Ext.refl _ | assumption | (apply Ext.after; assumption) | (refine Ext.alloc ?_ _) | (refine Ext.drew ?_) | (refine Ext.drewN ?_ _) | (refine Ext.setCell ?_ ?_ _) | (simp; done) | (simp; omega) | omega))))).mono ?_; rintro e w2 ⟨v, rfl, hv, hx2⟩; rw [hq] at hv; obtain ⟨na, nc, rfl⟩ := hv.shape; clear hv
  go_wp2_with fail
  refine hK.out _ _ ⟨by (repeat' (first | exact Ext.refl _ | assumption | (apply Ext.after; assumption) | (refine Ext.alloc ?_ _) | (refine Ext.drew ?_) | (refine Ext.drewN ?_ _) | (refine Ext.setCell ?_ ?_ _) | (simp; done) | (simp; omega) | omega)), hx2.cellAt hHeld.2⟩ (fun hHeld => ?_)
  clear hK K
  try simp only [Act.put, List.setIfInBounds_toArray, List.set_cons_zero, List.set_cons_succ]
  refine wpAnyH_take (i := 5) (oi := ?oiX5) (v := ?vX5) ?hiX5 ?hsX5 ?hfX5 ?hrX5 ?hQX5 ?hyX5 (by assumption) ?restX5
  case hiX5 => (simp only [List.getElem?_toArray, List.getElem?_cons_succ, List.getElem?_cons_zero]; rfl)
  case hsX5 => kernel_rfl
  case hfX5 => kernel_rfl
  case hrX5 => kernel_rfl
  case hQX5 => exact fun _ _ _ h => h
  case hyX5 => (refine Or.inl ⟨by kernel_rfl, ?_⟩; intro w hSw; (try dsimp only at hSw); go_simp; try with_reducible rfl)
  try simp only [Act.put, List.setIfInBounds_toArray, List.set_cons_zero, List.set_cons_succ]
  refine wpAnyH_take (i := 6) (oi := ?oiX6) (v := ?vX6) ?hiX6 ?hsX6 ?hfX6 ?hrX6 ?hQX6 ?hyX6 (by assumption) ?restX6
  case hiX6 => (simp only [List.getElem?_toArray, List.getElem?_cons_succ, List.getElem?_cons_zero]; rfl)
  case hsX6 => kernel_rfl
  case hfX6 => kernel_rfl
  case hrX6 => kernel_rfl
  case hQX6 => exact fun _ _ _ h => h
  case hyX6 => (refine Or.inl ⟨by kernel_rfl, ?_⟩; intro w hSw; (try dsimp only at hSw); go_simp; try with_reducible rfl)
  try simp only [Act.put, List.setIfInBounds_toArray, List.set_cons_zero, List.set_cons_succ]
  refine wpAnyH_take (i := 7) (oi := ?oiX7) (v := ?vX7) ?hiX7 ?hsX7 ?hfX7 ?hrX7 ?hQX7 ?hyX7 (by assumption) ?restX7
  case hiX7 => (simp only [List.getElem?_toArray, List.getElem?_cons_succ, List.getElem?_cons_zero]; rfl)
  case hsX7 => kernel_rfl
  case hfX7 => kernel_rfl
  case hrX7 => kernel_rfl
  case hQX7 => exact fun _ _ _ h => h
  case hyX7 => (refine Or.inl ⟨by kernel_rfl, ?_⟩; intro w hSw; (try dsimp only at hSw); go_simp; try with_reducible rfl)
  try simp only [Act.put, List.setIfInBounds_toArray, List.set_cons_zero, List.set_cons_succ]
  refine wpAnyH_take (i := 8) (oi := ?oiX8) (v := undef) ?hiX8 ?hsX8 ?hfX8 ?hrX8 ?hQX8 ?hyX8 (by assumption) ?restX8
  case hiX8 => (simp only [List.getElem?_toArray, List.getElem?_cons_succ, List.getElem?_cons_zero]; rfl)
  case hsX8 => kernel_rfl
  case hfX8 => kernel_rfl
  case hrX8 => kernel_rfl
  case hQX8 => exact fun _ _ _ h => h
  case hyX8 => exact Or.inr ⟨by kernel_rfl, rfl⟩
  try simp only [Act.put, List.setIfInBounds_toArray, List.set_cons_zero, List.set_cons_succ]
  refine wpAnyH_take (i := 9) (oi := ?oiX9) (v := undef) ?hiX9 ?hsX9 ?hfX9 ?hrX9 ?hQX9 ?hyX9 (by assumption) ?restX9
  case hiX9 => (simp only [List.getElem?_toArray, List.getElem?_cons_succ, List.getElem?_cons_zero]; rfl)
  case hsX9 => kernel_rfl
  case hfX9 => kernel_rfl
  case hrX9 => kernel_rfl
  case hQX9 => exact fun _ _ _ h => h
  case hyX9 => exact Or.inr ⟨by kernel_rfl, rfl⟩
  try simp only [Act.put, List.setIfInBounds_toArray, List.set_cons_zero, List.set_cons_succ]
  refine wpAnyH_take (i := 10) (oi := ?oiX10) (v := undef) ?hiX10 ?hsX10 ?hfX10 ?hrX10 ?hQX10 ?hyX10 (by assumption) ?restX10
  case hiX10 => (simp only [List.getElem?_toArray, List.getElem?_cons_succ, List.getElem?_cons_zero]; rfl)
  case hsX10 => kernel_rfl
  case hfX10 => kernel_rfl
  case hrX10 => kernel_rfl
  case hQX10 => exact fun _ _ _ h => h
  case hyX10 => exact Or.inr ⟨by kernel_rfl, rfl⟩
  try simp only [Act.put, List.setIfInBounds_toArray, List.set_cons_zero, List.set_cons_succ]
  refine wpAnyH_take (i := 11) (oi := ?oiX11) (v := undef) ?hiX11 ?hsX11 ?hfX11 ?hrX11 ?hQX11 ?hyX11 (by assumption) ?restX11
  case hiX11 => (simp only [List.getElem?_toArray, List.getElem?_cons_succ, List.getElem?_cons_zero]; rfl)
  case hsX11 => kernel_rfl
  case hfX11 => kernel_rfl
  case hrX11 => kernel_rfl
  case hQX11 => exact fun _ _ _ h => h
  case hyX11 => exact Or.inr ⟨by kernel_rfl, rfl⟩
  try simp only [Act.put, List.setIfInBounds_toArray, List.set_cons_zero, List.set_cons_succ]
  refine wpAnyH_take (i := 12) (oi := ?oiX12) (v := undef) ?hiX12 ?hsX12 ?hfX12 ?hrX12 ?hQX12 ?hyX12 (by assumption) ?restX12
  case hiX12 => (simp only [List.getElem?_toArray, List.getElem?_cons_succ, List.getElem?_cons_zero]; rfl)
  case hsX12 => kernel_rfl
  case hfX12 => kernel_rfl
  case hrX12 => kernel_rfl
  case hQX12 => exact fun _ _ _ h => h
  case hyX12 => exact Or.inr ⟨by kernel_rfl, rfl⟩
  try simp only [Act.put, List.setIfInBounds_toArray, List.set_cons_zero, List.set_cons_succ]
  refine wpAnyH_take (i := 13) (oi := ?oiX13) (v := undef) ?hiX13 ?hsX13 ?hfX13 ?hrX13 ?hQX13 ?hyX13 (by assumption) ?restX13
  case hiX13 => (simp only [List.getElem?_toArray, List.getElem?_cons_succ, List.getElem?_cons_zero]; rfl)
  case hsX13 => kernel_rfl
  case hfX13 => kernel_rfl
  case hrX13 => kernel_rfl
  case hQX13 => exact fun _ _ _ h => h
  case hyX13 => exact Or.inr ⟨by kernel_rfl, rfl⟩
  try simp only [Act.put, List.setIfInBounds_toArray, List.set_cons_zero, List.set_cons_succ]
  refine wpAnyH_take (i := 14) (oi := ?oiX14) (v := undef) ?hiX14 ?hsX14 ?hfX14 ?hrX14 ?hQX14 ?hyX14 (by assumption) ?restX14
  case hiX14 => (simp only [List.getElem?_toArray, List.getElem?_cons_succ, List.getElem?_cons_zero]; rfl)
  case hsX14 => kernel_rfl
  case hfX14 => kernel_rfl
  case hrX14 => kernel_rfl
  case hQX14 => exact fun _ _ _ h => h
  case hyX14 => exact Or.inr ⟨by kernel_rfl, rfl⟩
  try simp only [Act.put, List.setIfInBounds_toArray, List.set_cons_zero, List.set_cons_succ]
  refine wpAnyH_take (i := 15) (oi := ?oiX15) (v := undef) ?hiX15 ?hsX15 ?hfX15 ?hrX15 ?hQX15 ?hyX15 (by assumption) ?restX15
  case hiX15 => (simp only [List.getElem?_toArray, List.getElem?_cons_succ, List.getElem?_cons_zero]; rfl)
  case hsX15 => kernel_rfl
  case hfX15 => kernel_rfl
  case hrX15 => kernel_rfl
  case hQX15 => exact fun _ _ _ h => h
  case hyX15 => exact Or.inr ⟨by kernel_rfl, rfl⟩
  try simp only [Act.put, List.setIfInBounds_toArray, List.set_cons_zero, List.set_cons_succ]
  refine wpAnyH_take (i := 16) (oi := ?oiX16) (v := ?vX16) ?hiX16 ?hsX16 ?hfX16 ?hrX16 ?hQX16 ?hyX16 (by assumption) ?restX16
  case hiX16 => (simp only [List.getElem?_toArray, List.getElem?_cons_succ, List.getElem?_cons_zero]; rfl)
  case hsX16 => kernel_rfl
  case hfX16 => kernel_rfl
  case hrX16 => kernel_rfl
  case hQX16 => exact fun _ _ _ h => h
  case hyX16 => (refine Or.inl ⟨by kernel_rfl, ?_⟩; intro w hSw; (try dsimp only at hSw); go_simp; try with_reducible rfl)
  try simp only [Act.put, List.setIfInBounds_toArray, List.set_cons_zero, List.set_cons_succ]
  refine wpAnyH_done (by kernel_rfl) ?_ _
  have hx12 : Ext w1 w2 := hHeld.1
  have HC : Hid (∀ j u', (⟨s, nd, x, y, u⟩ : NoteV).list[j]? = some u' → w2.cell? ⟨w.heap.size, j, none⟩ = some u') := Lib.hid (fun j u' (hu : (⟨s, nd, x, y, u⟩ : NoteV).list[j]? = some u') => by
    have := hx12.cellAt (HA1.out.cellAt (news_of w #[.string s, .int .i64 nd, .int .i64 x, .int .i64 y, .int .i64 u] 25 j u' hu))
    cases j with
    | zero => simpa [Addr.add] using this
    | succ j => simpa [Addr.add] using this)
  have HT2 := Lib.hid (H.out.ext (HX1.out.trans hx12))
  have HX2 := Lib.hid (HX1.out.trans hx12)
  have hnd : 1 ≤ nd ∧ nd ≤ 15 := by
    have := HM.out
    simp [mayB, peerB] at this; omega
  obtain ⟨hnd1, hnd2⟩ := hnd
  have HS := Lib.hid hs
  clear hx12 hHeld hx2 k0 k1
  go_wp2_with (go_at_call 21; refine (sweep_tab now _ HT2.out).mono ?_; rintro e w3 ⟨rfl, S', F', D', ht3, hx3, hsub⟩)
  have hxb : ¬ S w.heap.size := fun e => by have := H.out.lt e; omega
  have c0 : w3.cell? ⟨w.heap.size, 0, none⟩ = some (.string s) := hx3.cellAt hxb (HC.out 0 _ rfl)
  have c1 : w3.cell? ⟨w.heap.size, 1, none⟩ = some (.int .i64 nd) := hx3.cellAt hxb (HC.out 1 _ rfl)
  have m1 := ht3.mp
  have hl := fun n => (ht3.map.ext ((Ext.refl w3).drewN n)).lookup s hs
  have HT3 := Lib.hid ht3
  have HX3 := Lib.hid hx3
  have HSB := Lib.hid hsub
  clear ht3 hx3 hsub
  cases hF : F' s.data.toList with
  | some b =>
    rw [hF] at hl
    simp only [ptrTo] at hl
    have hnn : (0 : Int) ≤ nd := by omega
    have hnm : nd < 16 := by omega
    have HF := Lib.hid hF
    clear hF
    go_quiet (fail)
    go_wp2_with fail
    have m4 : (w3.drewN nq).cell? ⟨tb, 1, none⟩ = some (.map (some mb)) := by simpa using m1
    have c4 : (w3.drewN nq).cell? ⟨w.heap.size, 0, none⟩ = some (.string s) := by simpa using c0
    have d4 : (w3.drewN nq).cell? ⟨w.heap.size, 1, none⟩ = some (.int .i64 nd) := by simpa using c1
    have HX4 := Lib.hid ((Ext.refl w3).drewN nq)
    have hl4 := hl nq
    have hl5 := (HT3.out.map.ext (HX4.out.drew)).lookup s HS.out
    rw [HF.out] at hl5
    simp only [ptrTo] at hl5
    clear m1 c0 c1 hl
    generalize w3.drewN nq = w4 at *
    have hxw : Ext w3 w4.drew := HX4.out.drew
    have HTT := Lib.hid (HT3.out.ext hxw)
    have HFF := Lib.hid HF.out
    have HNB : Hid (¬ S' w.heap.size) := Lib.hid (fun e => hxb (HSB.out _ e))
    have HCC : Hid (∀ j u', (⟨s, nd, x, y, u⟩ : NoteV).list[j]? = some u' → w4.drew.cell? ⟨w.heap.size, j, none⟩ = some u') := Lib.hid (fun j u' hu => hxw.cellAt (HX3.out.cellAt hxb (HC.out j u' hu)))
    go_still_tail 11, (by kernel_rfl)
    change wpList _ _ _ _ _ w4.drew
    have hent8 := (HTT.out.ent _ b HFF.out)
    obtain ⟨q8, e8, f8, _⟩ := hent8.at nd.toNat (by omega)
    have hfin := HTT.out.put HFF.out (i := nd.toNat) (by omega) (a := ⟨s, nd, x, y, u⟩) HNB.out (fun j u' hu => HCC.out j u' hu)
    have HFIN := Lib.hid hfin
    clear hfin hent8
    go_wp2_with fail
    go_ret
    refine ⟨rfl, _, n, ⟨_, _, _, HFIN.out⟩, by omega, ?_, ?_⟩
    · exact (((ExtS.of_ext HX2.out).trans HX3.out).trans (ExtS.of_ext hxw)).trans (ExtS.of_but ((ExtBut.refl b _).setCell _ _) (Or.inl (HSB.out b ((HTT.out.own b).2 (Or.inr ⟨_, HFF.out⟩)))))
    · exact fun b hb => Or.inl (HSB.out b hb)
  | none =>
    rw [hF] at hl
    simp only [ptrTo] at hl
    have HF := Lib.hid hF
    clear hF
    go_quiet (fail)
    go_wp2_with fail
    have m4 : (w3.drewN nq).cell? ⟨tb, 1, none⟩ = some (.map (some mb)) := by simpa using m1
    have c4 : (w3.drewN nq).cell? ⟨w.heap.size, 0, none⟩ = some (.string s) := by simpa using c0
    have d4 : (w3.drewN nq).cell? ⟨w.heap.size, 1, none⟩ = some (.int .i64 nd) := by simpa using c1
    have HX4 := Lib.hid ((Ext.refl w3).drewN nq)
    clear m1 c0 c1 hl
    generalize w3.drewN nq = w4 at *
    have hx5 : Ext w3 (w4.alloc (.cells #[.pointer none, .pointer none, .pointer none, .pointer none, .pointer none, .pointer none, .pointer none, .pointer none, .pointer none, .pointer none, .pointer none, .pointer none, .pointer none, .pointer none, .pointer none, .pointer none] 66)).drew := by have := HX4.out; (repeat' (first | exact Ext.refl _ | assumption | (apply Ext.after; assumption) | (refine Ext.alloc ?_ _) | (refine Ext.drew ?_) | (refine Ext.drewN ?_ _) | (refine Ext.setCell ?_ ?_ _) | (simp; done) | (simp; omega) | omega))
    have hsz4 : w3.heap.size ≤ w4.heap.size := HX4.out.size
    obtain ⟨w5, D5, hrun, hmap5, hg5⟩ := (HT3.out.map.ext hx5).update s hs (by have := HN.out; omega) w4.heap.size
    have HX5 := Lib.hid hx5
    have HM5 := Lib.hid hmap5
    have hmS : S' mb := (HT3.out.own mb).2 (Or.inl rfl)
    have hmlt := HT3.out.lt hmS
    have hxlt : w.heap.size < w3.heap.size := World.block_lt_of_cell? w3 _ (HX3.out.cellAt hxb (HC.out 0 _ rfl))
    have htlt : tb < w3.heap.size := World.block_lt_of_cell? w3 _ HT3.out.mp
    have hg6 := ExtS.of_grown (S := S') hg5 (Or.inl hmS)
    have hxS : ¬ S' w.heap.size := fun e => hxb (HSB.out _ e)
    have m5 : w5.cell? ⟨tb, 1, none⟩ = some (.map (some mb)) := hg6.cellAt HT3.out.tbS (hx5.cellAt HT3.out.mp)
    have c5 : w5.cell? ⟨w.heap.size, 0, none⟩ = some (.string s) := hg6.cellAt hxS (hx5.cellAt (HX3.out.cellAt hxb (HC.out 0 _ rfl)))
    have d5 : w5.cell? ⟨w.heap.size, 1, none⟩ = some (.int .i64 nd) := hg6.cellAt hxS (hx5.cellAt (HX3.out.cellAt hxb (HC.out 1 _ rfl)))
    have HG5 := Lib.hid hg5
    have HG6 := Lib.hid hg6
    clear hx5 hmap5 hg5 hg6
    go_region_held3 (fun w' => w'.cell? ⟨w.heap.size, 0, none⟩ = some (.string s) ∧ w'.cell? ⟨tb, 1, none⟩ = some (.map (some mb)))
      ((go_split_ands; refine ⟨?_, ?_⟩ <;> (first | assumption | go_keep)))
      (fail)
    have hW : ((w4.alloc (.cells #[.pointer none, .pointer none, .pointer none, .pointer none, .pointer none, .pointer none, .pointer none, .pointer none, .pointer none, .pointer none, .pointer none, .pointer none, .pointer none, .pointer none, .pointer none, .pointer none] 66)).drew).heap[w4.heap.size]? = some (.cells (ptrs fun _ => none) 66 (0, 0)) := (heap_alloc_new w4 _).trans rfl
    have hfr := HT3.out.fresh HF.out (by simpa using HS.out) HX5.out hsz4 hW HM5.out HG5.out
    have HTT := Lib.hid hfr
    have hl6 := HM5.out.lookup s HS.out
    have hl7 := (HM5.out.ext ((Ext.refl w5).drew)).lookup s HS.out
    rw [if_pos rfl] at hl6 hl7
    simp only [ptrTo] at hl6 hl7
    have HNB : Hid (¬ (S' w.heap.size ∨ w.heap.size = w4.heap.size)) := Lib.hid (fun e => e.elim hxS (fun e => by omega))
    have HCC : Hid (∀ j u', (⟨s, nd, x, y, u⟩ : NoteV).list[j]? = some u' → w5.drew.cell? ⟨w.heap.size, j, none⟩ = some u') := Lib.hid (fun j u' hu => HG6.out.cellAt hxS (HX5.out.cellAt (HX3.out.cellAt hxb (HC.out j u' hu))))
    clear hfr hW m4 c4 d4
    have hnn : (0 : Int) ≤ nd := by omega
    have hnm : nd < 16 := by omega
    go_wp2_with fail
    go_still_tail 11, (by kernel_rfl)
    change wpList _ _ _ _ _ w5.drew
    have hTd := HTT.out.ext ((Ext.refl w5).drew)
    obtain ⟨q8, e8, f8, _⟩ := (hTd.ent s.data.toList w4.heap.size (by rw [if_pos rfl])).at nd.toNat (by omega)
    have hfin := hTd.put (k := s.data.toList) (b := w4.heap.size) (by rw [if_pos rfl]) (i := nd.toNat) (by omega) (a := ⟨s, nd, x, y, u⟩) HNB.out (fun j u' hu => HCC.out j u' hu)
    have HFIN := Lib.hid hfin
    clear hfin hTd
    go_wp2_with fail
    go_ret
    refine ⟨rfl, _, n + 1, ⟨_, _, _, HFIN.out⟩, by omega, ?_, ?_⟩
    · have h0 := (((ExtS.of_ext HX2.out).trans HX3.out).trans (ExtS.of_ext HX5.out))
      have h1 : ExtS S w w5 := h0.trans (ExtS.of_grown HG5.out (Or.inl (HSB.out mb hmS)))
      exact (h1.trans (ExtS.of_ext ((Ext.refl w5).drew))).set_new (by have := h0.size; have := HX2.out.size; have := HX3.out.size; omega) _ _
    · intro b hb
      rcases hb with hb | rfl
      · exact Or.inl (HSB.out b hb)
      · exact Or.inr (by have := HX2.out.size; have := HX3.out.size; omega)

end Go.Proofs.YtleogddijlabdaaDoor
