/- The nearest nodes of a name. -/
import Derived.Test.YtleogddijlabdaaTrkX
import Derived.Test.YtleogddijlabdaaNearB
import Derived.Test.YtleogddijlabdaaAppP
import Derived.Test.YtleogddijlabdaaRefA
set_option linter.unusedSimpArgs false
set_option linter.unusedVariables false
namespace Go.Proofs.Ytleogddijlabdaa
open Go.RowKit Go.Maps

def noteAt (l : List NoteV) (i : Nat) : NoteV := (l[i]?).getD ⟨ByteArray.empty, 0, 0, 0, 0⟩
theorem noteAt_eq {l : List NoteV} {i : Nat} (h : i < l.length) : noteAt l i = l[i] := by simp [noteAt, List.getElem?_eq_getElem h]
theorem flatN_get (l : List NoteV) : ∀ {i j : Nat}, i < l.length → j < 5 → (flatN l)[i * 5 + j]? = (noteAt l i).list[j]? := by
  induction l with
  | nil => intro i j h; simp at h
  | cons a l ih =>
    intro i j h hj
    have hf : flatN (a :: l) = a.list ++ flatN l := by simp [flatN]
    have hl : a.list.length = 5 := rfl
    cases i with
    | zero =>
      rw [hf, List.getElem?_append_left (by omega)]
      simp [noteAt]
    | succ i =>
      have h' : i < l.length := by simpa using h
      rw [hf, List.getElem?_append_right (by omega), hl, show (i + 1) * 5 + j - 5 = i * 5 + j by omega, ih h' hj]
      simp [noteAt]

/-- The cells of the i-th note of a slice. -/
theorem NSl.cells {w : World} {b off : Nat} {l : List NoteV} (h : ∀ (i : Nat) (u : Value), (flatN l)[i]? = some u → w.cell? ⟨b, off + i, none⟩ = some u) {i : Nat} (hi : i < l.length) :
    w.cell? ⟨b, off + i * 5, none⟩ = some (.string (noteAt l i).name) ∧ w.cell? ⟨b, off + i * 5 + 1, none⟩ = some (.int .i64 (noteAt l i).node) ∧ w.cell? ⟨b, off + i * 5 + 2, none⟩ = some (.int .i64 (noteAt l i).x) ∧
      w.cell? ⟨b, off + i * 5 + 3, none⟩ = some (.int .i64 (noteAt l i).y) ∧ w.cell? ⟨b, off + i * 5 + 4, none⟩ = some (.int .i64 (noteAt l i).til) := by
  refine ⟨?_, ?_, ?_, ?_, ?_⟩
  · exact h (i * 5 + 0) _ (by rw [flatN_get l hi (by omega)]; rfl)
  · exact h (i * 5 + 1) _ (by rw [flatN_get l hi (by omega)]; rfl)
  · exact h (i * 5 + 2) _ (by rw [flatN_get l hi (by omega)]; rfl)
  · exact h (i * 5 + 3) _ (by rw [flatN_get l hi (by omega)]; rfl)
  · exact h (i * 5 + 4) _ (by rw [flatN_get l hi (by omega)]; rfl)

def nx (l : List NoteV) (i : Nat) : Int := (noteAt l i).x
def ny (l : List NoteV) (i : Nat) : Int := (noteAt l i).y
def nodeOf (l : List NoteV) (i : Int) : Int := (noteAt l i.toNat).node
/-- The numbers of notes, from the nearest one on; of two alike the first one. -/
structure OrderOf (l : List NoteV) (x y : Int) (order : List Int) : Prop where
  sorted : order.Pairwise (Srt.LT (keyOf x y (nx l) (ny l)))
  mem : ∀ v, v ∈ order ↔ 0 ≤ v ∧ v < (l.length : Int)
  len : order.length = l.length
theorem OrderOf.uniq {l : List NoteV} {x y : Int} {a b : List Int} (h : OrderOf l x y a) (k : OrderOf l x y b) : a = b :=
  sorted_one h.sorted k.sorted fun v => (h.mem v).trans (k.mem v).symm

theorem OrderOf.of_row {l : List NoteV} {x y : Int} {g : Nat → Int} (hs : Srt.Same (fun i => (i : Int)) g 0 l.length) (ho : Srt.Sorted (keyOf x y (nx l) (ny l)) g 0 l.length) : OrderOf l x y ((List.range l.length).map g) := by
  refine ⟨?_, fun v => ?_, by simp⟩
  · rw [List.pairwise_map]
    refine List.pairwise_lt_range.imp_of_mem ?_
    intro a b _ hb hlt
    rw [List.mem_range] at hb
    exact ho a b (by omega) hlt hb
  · rw [List.mem_map]
    constructor
    · rintro ⟨i, hi, rfl⟩
      rw [List.mem_range] at hi
      obtain ⟨q, _, hq, e⟩ := hs.of i (by omega) hi
      simp only [e]; omega
    · rintro ⟨h0, h1⟩
      obtain ⟨q, _, hq, e⟩ := hs.to v.toNat (by omega) (by omega)
      exact ⟨q, by rw [List.mem_range]; exact hq, by rw [← e]; omega⟩

def FindB (x y k now : Int) : Bool := tickB now && chk x y && decide (0 ≤ k)

set_option maxHeartbeats 1000000 in
theorem Find_bad (tb : Nat) (s : ByteArray) (x y k now : Int) (w : World) (hb : FindB x y k now = false) :
    Calls Try.prog 19 #[.pointer (some ⟨tb, 0, none⟩), .string s, .agg #[.int .i64 x, .int .i64 y], .int .i64 k, .int .i64 now] w fun e w' => e = .returned (.tuple #[.slice none 0 0, .int .i64 1]) ∧ Ext w w' := by
  unfold FindB at hb
  cases hT : tickB now with
  | false =>
    have HT := Lib.hid hT
    clear hT hb
    go_enter Try.func19, Try.ntmps19
    go_wp2_with (go_at_call 36; refine (tick_any _ _).mono ?_; rintro e w1 ⟨rfl, rfl⟩; rw [HT.out])
    go_ret2
    exact ⟨rfl, by (repeat' (first | exact Ext.refl _ | assumption | (apply Ext.after; assumption) | (refine Ext.alloc ?_ _) | (refine Ext.drew ?_) | (refine Ext.drewN ?_ _) | (refine Ext.setCell ?_ ?_ _) | (simp; done) | (simp; omega) | omega))⟩
  | true =>
    cases hC : chk x y with
    | false =>
      have HT := Lib.hid hT
      have HC := Lib.hid hC
      clear hT hb hC
      go_enter Try.func19, Try.ntmps19
      go_wp2_with (first | (go_at_call 36; refine (tick_any _ _).mono ?_; rintro e w1 ⟨rfl, rfl⟩; rw [HT.out]) | (go_at_call 25; refine (Check_any _ _ _).mono ?_; rintro e w2 ⟨rfl, hx⟩; rw [HC.out]))
      go_ret2
      exact ⟨rfl, by (repeat' (first | exact Ext.refl _ | assumption | (apply Ext.after; assumption) | (refine Ext.alloc ?_ _) | (refine Ext.drew ?_) | (refine Ext.drewN ?_ _) | (refine Ext.setCell ?_ ?_ _) | (simp; done) | (simp; omega) | omega))⟩
    | true =>
      have hk : k < 0 := by rw [hT, hC] at hb; simpa using hb
      have HT := Lib.hid hT
      have HC := Lib.hid hC
      clear hT hb hC
      go_enter Try.func19, Try.ntmps19
      go_wp2_with (first | (go_at_call 36; refine (tick_any _ _).mono ?_; rintro e w1 ⟨rfl, rfl⟩; rw [HT.out]) | (go_at_call 25; refine (Check_any _ _ _).mono ?_; rintro e w2 ⟨rfl, hx⟩; rw [HC.out]))
      go_ret2
      exact ⟨rfl, by (repeat' (first | exact Ext.refl _ | assumption | (apply Ext.after; assumption) | (refine Ext.alloc ?_ _) | (refine Ext.drew ?_) | (refine Ext.drewN ?_ _) | (refine Ext.setCell ?_ ?_ _) | (simp; done) | (simp; omega) | omega))⟩

theorem FindB_true {x y k now : Int} (h : FindB x y k now = true) : tickB now = true ∧ chk x y = true ∧ 0 ≤ k := by
  unfold FindB at h; simpa [and_assoc] using h

set_option maxHeartbeats 1000000 in
theorem Find_none {bs : Nat} {w0 : World} {tb n : Nat} {room : Int} {T : List UInt8 → Nat → Option NoteV} (s : ByteArray) (hs : s.size ≤ 1000) (x y k now : Int) (w : World) (h : TInv bs w0 w tb n room T) (hb : FindB x y k now = true) (hz : nodesL T s.data.toList now = []) :
    Calls Try.prog 19 #[.pointer (some ⟨tb, 0, none⟩), .string s, .agg #[.int .i64 x, .int .i64 y], .int .i64 k, .int .i64 now] w fun e w' => e = .returned (.tuple #[.slice none 0 0, .int .i64 4]) ∧ Ext w w' := by
  obtain ⟨hT, hC, hk⟩ := FindB_true hb
  have HT := Lib.hid hT
  have HC := Lib.hid hC
  have H := Lib.hid h
  have HZ := Lib.hid hz
  clear hT hb hC h hz
  go_enter Try.func19, Try.ntmps19
  go_wp2_with (first | (go_at_call 36; refine (tick_any _ _).mono ?_; rintro e w1 ⟨rfl, rfl⟩; rw [HT.out]) | (go_at_call 25; refine (Check_any _ _ _).mono ?_; rintro e w2 ⟨rfl, hx⟩; rw [HC.out]))
  have hx2 : Ext w w2 := by (repeat' (first | exact Ext.refl _ | assumption | (apply Ext.after; assumption) | (refine Ext.alloc ?_ _) | (refine Ext.drew ?_) | (refine Ext.drewN ?_ _) | (refine Ext.setCell ?_ ?_ _) | (simp; done) | (simp; omega) | omega))
  refine (Nodes_inv s hs now _ (H.out.ext hx2)).mono ?_
  rintro e w3 ⟨v, rfl, hv, hx3, _⟩
  rw [HZ.out] at hv
  obtain ⟨na, nc, rfl⟩ := hv.shape
  clear hv
  go_wp2
  go_ret2
  exact ⟨rfl, hx2.trans hx3⟩

def FPlRel (w1 : World) (base : Nat) (l : List NoteV) (v iv : Value) (wr : World) : Prop :=
  ∃ i : Nat, iv = .int .i64 i ∧ i ≤ l.length ∧ OwnP wr base 23 v i (nx l) (ny l) ∧ Ext w1 wr
def FOutRel (w1 : World) (base : Nat) (l : List NoteV) (g : Nat → Int) (m : Nat) (v iv : Value) (wr : World) : Prop :=
  ∃ i : Nat, iv = .int .i64 i ∧ i ≤ m ∧ OwnI wr base v ((List.range i).map fun a => nodeOf l (g a)) ∧ Ext w1 wr

def FoundPost (w w' : World) (l : List NoteV) (x y k : Int) (e : Ending) : Prop :=
  ∃ v order, e = .returned (.tuple #[v, .int .i64 0]) ∧ OrderOf l x y order ∧ ISl w' v ((order.take k.toNat).map (nodeOf l)) ∧ Ext w w'

set_option maxRecDepth 100000 in
set_option maxHeartbeats 4000000 in
theorem Find_some {bs : Nat} {w0 : World} {tb n : Nat} {room : Int} {T : List UInt8 → Nat → Option NoteV} (s : ByteArray) (hs : s.size ≤ 1000) (x y k now : Int) (w : World) (h : TInv bs w0 w tb n room T) (hb : FindB x y k now = true) (hz : nodesL T s.data.toList now ≠ [])
    (hck : ∀ a ∈ nodesL T s.data.toList now, chk a.x a.y = true) :
    Calls Try.prog 19 #[.pointer (some ⟨tb, 0, none⟩), .string s, .agg #[.int .i64 x, .int .i64 y], .int .i64 k, .int .i64 now] w fun e w' => FoundPost w w' (nodesL T s.data.toList now) x y k e := by
  obtain ⟨hT, hC, hk⟩ := FindB_true hb
  have HT := Lib.hid hT
  have HC := Lib.hid hC
  have H := Lib.hid h
  have hll : (nodesL T s.data.toList now).length ≤ 16 := by
    unfold nodesL; rw [if_pos hT]; exact countL_len _ _ _
  have hall : allChk (nx (nodesL T s.data.toList now)) (ny (nodesL T s.data.toList now)) (nodesL T s.data.toList now).length = true := allChk_iff.2 fun i hi => by
    unfold nx ny; rw [noteAt_eq hi]; exact hck _ (List.getElem_mem hi)
  have hl0 : 0 < (nodesL T s.data.toList now).length := List.length_pos_iff.2 hz
  generalize hL : nodesL T s.data.toList now = l at *
  have HL := Lib.hid hL
  have HCK := Lib.hid hck
  have HALL := Lib.hid hall
  clear hT hb hC h hz hL hck hall
  go_enter Try.func19, Try.ntmps19
  go_wp2_with (first | (go_at_call 36; refine (tick_any _ _).mono ?_; rintro e w1 ⟨rfl, rfl⟩; rw [HT.out]) | (go_at_call 25; refine (Check_any _ _ _).mono ?_; rintro e w2 ⟨rfl, hx⟩; rw [HC.out]))
  have hx2 : Ext w w2 := by (repeat' (first | exact Ext.refl _ | assumption | (apply Ext.after; assumption) | (refine Ext.alloc ?_ _) | (refine Ext.drew ?_) | (refine Ext.drewN ?_ _) | (refine Ext.setCell ?_ ?_ _) | (simp; done) | (simp; omega) | omega))
  have hat0 : w2.cell? ⟨w.heap.size, 0, none⟩ = some (.int .i64 x) := hx.cell_one 0
  have hat1 : w2.cell? ⟨w.heap.size, 1, none⟩ = some (.int .i64 y) := hx.cell_one 1
  refine (Nodes_inv s hs now _ (H.out.ext hx2)).mono ?_
  rintro e w3 ⟨v, rfl, hv, hx3, _⟩
  have hv2 : NSl w3 v l := by have := hv; rw [HL.out] at this; exact this
  clear hv
  rcases hv2 with ⟨h0, _⟩ | ⟨lb, off, cap, rfl, hc⟩
  · omega
  have HCEL := Lib.hid hc
  have HX3 := Lib.hid (hx2.trans hx3)
  have hat0 := hx3.cellAt hat0
  have hat1 := hx3.cellAt hat1
  clear hc hx hx2 hx3
  have hne : ((l.length : Int) == 0) = false := by rw [beq_eq_false_iff_ne]; omega
  go_wp2_with fail
  go_loopw [13, 46] (fun v iv wr => FPlRel w3 w3.heap.size l v iv wr) (fun _ iv _ => l.length - (intOf iv).toNat)
  case atStart => exact ⟨0, rfl, by omega, OwnP.nil _ _ _ _ _, Ext.refl _⟩
  case round =>
    obtain ⟨i, rfl, hi, ho, hx⟩ := hrel
    have HO := Lib.hid ho
    have HX := Lib.hid hx
    by_cases hlt : i < l.length
    · obtain ⟨c0, c1, c2, c3, c4⟩ := NSl.cells HCEL.out hlt
      have d0 := hx.cellAt c0
      have d1 := hx.cellAt c1
      have d2 := hx.cellAt c2
      have d3 := hx.cellAt c3
      have d4 := hx.cellAt c4
      clear c0 c1 c2 c3 c4 ho hx hat0 hat1
      have i1 : (0 : Int) ≤ (i : Int) := by omega
      have i2 : (i : Int) < (l.length : Int) := by omega
      have hw := HX.out.size
      go_wp2_with (at_builtin; refine wp_app_place rfl _ _ 24 23 rfl Try.underlying24 info_aplace w3.heap.size _ i (nx l) (ny l) rfl (by exact HO.out.ext (((Ext.refl _).alloc _).alloc _)) _ rfl (by exact World.cell?_alloc_at _ _ _ 0 (by simp)) (by exact World.cell?_alloc_at _ _ _ 1 (by simp)) (by omega) (by simp; omega) ?_; intro v' w4 hown' hext)
      have hx4 : Ext w3 w4 := hext _ (by have := HX.out; (repeat' (first | exact Ext.refl _ | assumption | (apply Ext.after; assumption) | (refine Ext.alloc ?_ _) | (refine Ext.drew ?_) | (refine Ext.drewN ?_ _) | (refine Ext.setCell ?_ ?_ _) | (simp; done) | (simp; omega) | omega))) (Nat.le_refl _)
      go_wp2_with fail
      go_roundw
      case rel => exact ⟨i + 1, by go_num, by omega, hown', hx4⟩
      case measure => simp [intOf]; omega
    · obtain rfl : i = l.length := by omega
      have hat0 := hx.cellAt hat0
      have hat1 := hx.cellAt hat1
      have hpl := ho.places
      obtain ⟨pa, pc, rfl⟩ := hpl.shape
      have HPL := Lib.hid hpl
      clear ho hpl
      go_wp2_with fail
      refine (Near_any x y _ l.length (nx l) (ny l) _ (by omega) HPL.out).mono ?_
      rintro e w4 ⟨hx4, hres⟩
      rw [HC.out, HALL.out] at hres
      rcases hres with ⟨hn, _⟩ | ⟨_, hn, _⟩ | ⟨_, _, v, rfl, hv⟩
      · cases hn
      · omega
      rcases hv with ⟨h0, _⟩ | ⟨B, cp, g, _, hcp, hB, rfl, hrow, hsame, hsort⟩
      · omega
      have hord := OrderOf.of_row hsame hsort
      have HORD := Lib.hid hord
      have HROW := Lib.hid hrow
      have hX4 : Ext w3 w4 := HX.out.trans hx4
      have HX4 := Lib.hid hX4
      have HS := Lib.hid hsame
      clear hord hrow hsame hsort hx4 hX4 hat0 hat1 hx
      have hXw : Ext w w4 := HX3.out.trans HX4.out
      have HXW := Lib.hid hXw
      clear hXw
      by_cases hkl : k < (l.length : Int)
      · obtain ⟨m, rfl⟩ : ∃ m : Nat, k = (m : Int) := ⟨k.toNat, by omega⟩
        have hml : m ≤ l.length := by omega
        have hmc : m ≤ cp := by omega
        go_wp2_with fail
        go_loopw [18, 69] (fun v iv wr => FOutRel w4 w4.heap.size l g m v iv wr) (fun _ iv _ => m - (intOf iv).toNat)
        case atStart => exact ⟨0, rfl, by omega, OwnI.nil _ _, Ext.refl _⟩
        case round =>
          obtain ⟨i, rfl, hi, ho, hx⟩ := hrel
          have HO := Lib.hid ho
          have HX := Lib.hid hx
          by_cases hlt : i < m
          · have c := (HROW.out i (by omega)).1
            obtain ⟨q, _, hq, e⟩ := HS.out.of i (by omega) (by omega)
            have e' : g i = (q : Int) := e
            have HE := Lib.hid e'
            rw [e'] at c
            obtain ⟨c0, c1, c2, c3, c4⟩ := NSl.cells HCEL.out hq
            have d1 := (HX4.out.trans hx).cellAt c1
            have dc := hx.cellAt c
            clear c c0 c1 c2 c3 c4 e e' ho hx
            have i1 : (0 : Int) ≤ (i : Int) := by omega
            have i2 : (i : Int) < (m : Int) := by omega
            have q1 : (0 : Int) ≤ (q : Int) := by omega
            have q2 : (q : Int) < (l.length : Int) := by omega
            have hw := HX.out.size
            have hol : ((List.range i).map fun a => nodeOf l (g a)).length ≤ 16 := by simp; omega
            go_wp2_with (at_builtin; refine wp_app_int rfl _ _ rfl w4.heap.size _ _ rfl (by exact HO.out.ext ((Ext.refl _).alloc _)) ((noteAt l q).node) _ rfl (by exact World.cell?_alloc_at _ _ _ 0 (by simp)) (by omega) (by simp; omega) ?_; intro v' w5 hown' hext)
            have hx5 : Ext w4 w5 := hext _ (by have := HX.out; (repeat' (first | exact Ext.refl _ | assumption | (apply Ext.after; assumption) | (refine Ext.alloc ?_ _) | (refine Ext.drew ?_) | (refine Ext.drewN ?_ _) | (refine Ext.setCell ?_ ?_ _) | (simp; done) | (simp; omega) | omega))) (Nat.le_refl _)
            go_wp2_with fail
            go_roundw
            case rel =>
              refine ⟨i + 1, by go_num, by omega, ?_, hx5⟩
              rw [List.range_succ, List.map_append, List.map_singleton, HE.out]; exact hown'
            case measure => simp [intOf]; omega
          · obtain rfl : i = m := by omega
            clear hx ho
            go_wp2_with fail
            go_ret2
            refine ⟨_, _, rfl, HORD.out, ?_, HXW.out.trans HX.out⟩
            have := ISl.of_own HO.out
            rw [Int.toNat_natCast, ← List.map_take, List.take_range, Nat.min_eq_left (by omega), List.map_map]
            exact this
      · have hml : l.length ≤ cp := by omega
        go_wp2_with fail
        go_loopw [18, 69] (fun v iv wr => FOutRel w4 w4.heap.size l g l.length v iv wr) (fun _ iv _ => l.length - (intOf iv).toNat)
        case atStart => exact ⟨0, rfl, by omega, OwnI.nil _ _, Ext.refl _⟩
        case round =>
          obtain ⟨i, rfl, hi, ho, hx⟩ := hrel
          have HO := Lib.hid ho
          have HX := Lib.hid hx
          by_cases hlt : i < l.length
          · have c := (HROW.out i (by omega)).1
            obtain ⟨q, _, hq, e⟩ := HS.out.of i (by omega) (by omega)
            have e' : g i = (q : Int) := e
            have HE := Lib.hid e'
            rw [e'] at c
            obtain ⟨c0, c1, c2, c3, c4⟩ := NSl.cells HCEL.out hq
            have d1 := (HX4.out.trans hx).cellAt c1
            have dc := hx.cellAt c
            clear c c0 c1 c2 c3 c4 e e' ho hx
            have i1 : (0 : Int) ≤ (i : Int) := by omega
            have i2 : (i : Int) < (l.length : Int) := by omega
            have q1 : (0 : Int) ≤ (q : Int) := by omega
            have q2 : (q : Int) < (l.length : Int) := by omega
            have hw := HX.out.size
            have hol : ((List.range i).map fun a => nodeOf l (g a)).length ≤ 16 := by simp; omega
            go_wp2_with (at_builtin; refine wp_app_int rfl _ _ rfl w4.heap.size _ _ rfl (by exact HO.out.ext ((Ext.refl _).alloc _)) ((noteAt l q).node) _ rfl (by exact World.cell?_alloc_at _ _ _ 0 (by simp)) (by omega) (by simp; omega) ?_; intro v' w5 hown' hext)
            have hx5 : Ext w4 w5 := hext _ (by have := HX.out; (repeat' (first | exact Ext.refl _ | assumption | (apply Ext.after; assumption) | (refine Ext.alloc ?_ _) | (refine Ext.drew ?_) | (refine Ext.drewN ?_ _) | (refine Ext.setCell ?_ ?_ _) | (simp; done) | (simp; omega) | omega))) (Nat.le_refl _)
            go_wp2_with fail
            go_roundw
            case rel =>
              refine ⟨i + 1, by go_num, by omega, ?_, hx5⟩
              rw [List.range_succ, List.map_append, List.map_singleton, HE.out]; exact hown'
            case measure => simp [intOf]; omega
          · obtain rfl : i = l.length := by omega
            clear hx ho
            go_wp2_with fail
            go_ret2
            refine ⟨_, _, rfl, HORD.out, ?_, HXW.out.trans HX.out⟩
            have := ISl.of_own HO.out
            rw [List.take_of_length_le (by simp; omega), List.map_map]
            exact this

end Go.Proofs.Ytleogddijlabdaa
