/- The law TrackerFull, walked. -/
import Derived.Test.YtleogddijlabdaaFulM
import Derived.IntWalk
import Derived.IntWalk
set_option linter.unusedSimpArgs false
set_option linter.unusedVariables false
namespace Go.Proofs.Ytleogddijlabdaa
open Go.RowKit Go.Maps

/-- A full table that is asked for a new name. -/
theorem ann_inv_full {bs : Nat} {w0 : World} {tb n : Nat} {room : Int} {T : List UInt8 → Nat → Option NoteV} (hn : n ≤ 1000) (a : NoteV) (now : Int) (hm : mayB a now = true) (w : World) (h : TInv bs w0 w tb n room T)
    (ns : List (List UInt8)) (hr : Rising ns) (hns : ∀ k, k ∈ ns ↔ nodesL T k now ≠ []) (hz : nodesL T a.name.data.toList now = []) (hf : room ≤ ns.length) :
    Calls Try.prog 14 #[.pointer (some ⟨tb, 0, none⟩), a.val, .int .i64 now] w fun e w' => e = .returned (.int .i64 6) ∧ TInv bs w0 w' tb n room T := by
  have h' := h
  obtain ⟨h0, S, ⟨mb, F, D, h1⟩, h2, h3⟩ := h
  refine (ann_full hn a now hm w h1 ns hr hns hz hf).mono ?_
  rintro e w' ⟨rfl, hx⟩
  exact ⟨rfl, h'.ext hx⟩

theorem room_eq (x : Int) : ∃ r : Nat, wrap64 (1 + (wrap64 (x.tmod 64 + 64)).tmod 64) = (r : Int) ∧ 1 ≤ r ∧ r ≤ 64 := by
  have h1 := Int.tmod_lt_of_pos x (show (0 : Int) < 64 by omega)
  have h2 := Int.lt_tmod_of_pos x (show (0 : Int) < 64 by omega)
  generalize x.tmod 64 = t at h1 h2
  have e1 : wrap64 (t + 64) = t + 64 := IntWalk.wrap64_in _ (by omega)
  rw [e1, Int.tmod_eq_emod_of_nonneg (by omega)]
  have e2 : wrap64 (1 + (t + 64) % 64) = 1 + (t + 64) % 64 := IntWalk.wrap64_in _ (by omega)
  rw [e2]
  exact ⟨(1 + (t + 64) % 64).toNat, by omega, by omega, by omega⟩

def FullRel (bs : Nat) (w0 : World) (tb r : Nat) (iv : Value) (wr : World) : Prop :=
  ∃ i n : Nat, iv = .int .i64 i ∧ i ≤ r ∧ n ≤ i ∧ TInv bs w0 wr tb n r (tabG (gA i))

theorem gB_eq (r : Nat) : annT (tabG (gA r)) fnB 5 = tabG (gB r) := ann_tabG _ (by omega) fnB rfl 5
theorem gC_eq (r : Nat) : annT (tabG (gB r)) fnC 11 = tabG (gC r) := ann_tabG _ (by omega) fnC rfl 11
theorem full_no (r : Nat) (hr : r ≤ 64) : nodesL (tabG (gA r)) fnC.name.data.toList 5 = [] := by
  have e := nodes_tabG (gA r) (j := 100) (by omega) 5
  show nodesL (tabG (gA r)) (nameL 100) 5 = []
  rw [e]
  apply Classical.byContradiction
  intro h
  have := (gA_ne r 100 5 (by decide)).1 h
  omega
theorem full_zero (r : Nat) (hr : 1 ≤ r) : nodesL (tabG (gA r)) fnB.name.data.toList 5 ≠ [] := by
  have e := nodes_tabG (gA r) (j := 0) (by omega) 5
  show nodesL (tabG (gA r)) (nameL 0) 5 ≠ []
  rw [e]
  exact (gA_ne r 0 5 (by decide)).2 ⟨by omega, by omega⟩

set_option maxRecDepth 100000 in
set_option maxHeartbeats 4000000 in
theorem TF_walk (x : Int) (w : World) :
    Calls Try.prog 5 #[.int .i64 x] w fun e w' => e = .returned (.bool true) ∧ Ext w w' := by
  obtain ⟨r, hr, hr1, hr2⟩ := room_eq x
  have HR := Lib.hid hr
  clear hr
  go_enter Try.func5, Try.ntmps5
  go_wp2_with fail
  rw [HR.out]
  refine (New_inv (r : Int) (by omega) _).mono ?_
  rintro e w1 ⟨tb, rfl, ht⟩
  rw [← gA_zero] at ht
  have HT1 := Lib.hid ht
  clear ht
  go_wp2_with fail
  refine (awake31_any _).mono ?_
  rintro e w2 ⟨rfl, hx2⟩
  have HT2 := Lib.hid (HT1.out.ext hx2)
  clear hx2 HT1
  go_wp2_with fail
  go_loopw [4] (fun iv wr => FullRel w.heap.size w tb r iv wr) (fun i _ => r - (intOf i).toNat)
  case atStart => exact ⟨0, 0, rfl, by omega, by omega, HT2.out⟩
  case round =>
    obtain ⟨i, n, rfl, hi, hn, ht⟩ := hrel
    have HT := Lib.hid ht
    clear ht HT2
    by_cases hlt : i < r
    · go_wp2_with fail
      refine (name_any i (by omega) _).mono ?_
      rintro e w3 ⟨rfl, hx3⟩
      have HT3 := Lib.hid (HT.out.ext hx3)
      clear hx3 HT
      go_wp2_with fail
      refine (ann_inv (by omega) (fnN i) 0 (may_fnN i (by omega)) _ HT3.out (namesG (gA i) 0) (namesG_rising _ _) (namesG_mem _ _) (Or.inr (by rw [names_A i (by omega) 0 (by omega) (by omega)]; omega))).mono ?_
      rintro e w4 ⟨rfl, n4, hn4, ht4⟩
      rw [gA_succ (by omega)] at ht4
      have HT4 := Lib.hid ht4
      clear ht4 HT3
      go_wp2_with fail
      go_roundw
      case rel => exact ⟨i + 1, n4, by go_num, by omega, by omega, HT4.out⟩
      case measure => simp [intOf]; omega
    · obtain rfl : i = r := by omega
      go_wp2_with fail
      refine (name_any 100 (by omega) _).mono ?_
      rintro e w3 ⟨rfl, hx3⟩
      have HT3 := Lib.hid (HT.out.ext hx3)
      clear hx3 HT
      go_wp2_with fail
      refine (ann_inv_full (by omega) fnC 5 may_fnC5 _ HT3.out (namesG (gA i) 5) (namesG_rising _ _) (namesG_mem _ _) (full_no i hr2) (by rw [names_A i hr2 5 (by omega) (by omega)]; omega)).mono ?_
      rintro e w4 ⟨rfl, ht4⟩
      have HT4 := Lib.hid ht4
      clear ht4 HT3
      go_wp2_with fail
      refine (name_any 0 (by omega) _).mono ?_
      rintro e w5 ⟨rfl, hx5⟩
      have HT5 := Lib.hid (HT4.out.ext hx5)
      clear hx5 HT4
      go_wp2_with fail
      refine (ann_inv (by omega) fnB 5 may_fnB _ HT5.out (namesG (gA i) 5) (namesG_rising _ _) (namesG_mem _ _) (Or.inl (full_zero i hr1))).mono ?_
      rintro e w6 ⟨rfl, n6, hn6, ht6⟩
      rw [gB_eq] at ht6
      have HT6 := Lib.hid ht6
      clear ht6 HT5
      go_wp2_with fail
      refine (name_any 100 (by omega) _).mono ?_
      rintro e w7 ⟨rfl, hx7⟩
      have HT7 := Lib.hid (HT6.out.ext hx7)
      clear hx7 HT6
      go_wp2_with fail
      refine (ann_inv (by omega) fnC 11 may_fnC _ HT7.out (namesG (gB i) 11) (namesG_rising _ _) (namesG_mem _ _) (Or.inr (by rw [names_B i hr2]; omega))).mono ?_
      rintro e w8 ⟨rfl, n8, hn8, ht8⟩
      rw [gC_eq] at ht8
      have HT8 := Lib.hid ht8
      clear ht8 HT7
      go_wp2_with fail
      refine (Len_inv (by omega) 11 _ HT8.out (namesG (gC i) 11) (namesG_rising _ _) (namesG_mem _ _)).mono ?_
      rintro e w9 ⟨rfl, _, ht9⟩
      rw [show (namesG (gC i) 11).length = i by rw [names_C i hr2]; omega]
      have HT9 := Lib.hid ht9
      clear ht9 HT8
      have hee : ((i : Int) == (i : Int)) = true := by simp
      go_wp2_with fail
      refine (name_any 0 (by omega) _).mono ?_
      rintro e w10 ⟨rfl, hx10⟩
      have HT10 := Lib.hid (HT9.out.ext hx10)
      clear hx10 HT9
      go_wp2_with fail
      refine (Nodes_inv (nameB 0) (by rw [nameB_size]; omega) 5 _ HT10.out).mono ?_
      rintro e w11 ⟨v, rfl, hv, _, ht11⟩
      rw [show nodesL (tabG (gC i)) (nameB 0).data.toList 5 = [] from (nodes_tabG (gC i) (j := 0) (by omega) 5).trans (gC_zero i)] at hv
      obtain ⟨na, nc, rfl⟩ := hv.shape
      have hx := ht11.base
      clear ht11 HT10 hv
      go_wp2
      go_ret
      exact ⟨rfl, hx⟩
end Go.Proofs.Ytleogddijlabdaa
