/- Package tracker: tick, peer, may; the law's name. -/
import Derived.Test.YtleogddijlabdaaDoorPlA
import Derived.Maps.Own
import Derived.Maps.OwnOps
import Derived.Maps.Views
import Derived.Maps.RangeWalk
set_option linter.unusedSimpArgs false
set_option linter.unusedVariables false
namespace Go.Proofs.YtleogddijlabdaaDoor
open Go.RowKit Go.Maps

def tickB (n : Int) : Bool := decide (0 ≤ n ∧ n ≤ 1099511627776)
def peerB (n : Int) : Bool := decide (1 ≤ n ∧ n ≤ 15)

set_option maxHeartbeats 400000 in
theorem tick_any (n : Int) (w : World) : Calls Tryd.prog 15 #[.int .i64 n] w fun e w' => e = .returned (.bool (tickB n)) ∧ w' = w := by
  by_cases h1 : 0 ≤ n
  · by_cases h2 : n ≤ 1099511627776
    · go_enter Tryd.func15, Tryd.ntmps15
      go_wp2
      go_ret
      exact ⟨by simp [tickB, *], rfl⟩
    · go_enter Tryd.func15, Tryd.ntmps15
      go_wp2
      go_ret
      exact ⟨by simp [tickB]; omega, rfl⟩
  · go_enter Tryd.func15, Tryd.ntmps15
    go_wp2
    go_ret
    exact ⟨by simp [tickB]; omega, rfl⟩

set_option maxHeartbeats 400000 in
theorem peer_any (n : Int) (w : World) : Calls Tryd.prog 22 #[.int .i64 n] w fun e w' => e = .returned (.bool (peerB n)) ∧ w' = w := by
  by_cases h1 : 1 ≤ n
  · by_cases h2 : n ≤ 15
    · go_enter Tryd.func22, Tryd.ntmps22
      go_wp2
      go_ret
      exact ⟨by simp [peerB, *], rfl⟩
    · go_enter Tryd.func22, Tryd.ntmps22
      go_wp2
      go_ret
      exact ⟨by simp [peerB]; omega, rfl⟩
  · go_enter Tryd.func22, Tryd.ntmps22
    go_wp2
    go_ret
    exact ⟨by simp [peerB]; omega, rfl⟩

/-- A note: its name, its node, its place, up to when. -/
structure NoteV where
  name : ByteArray
  node : Int
  x : Int
  y : Int
  til : Int

def NoteV.val (a : NoteV) : Value := .agg #[.string a.name, .int .i64 a.node, .int .i64 a.x, .int .i64 a.y, .int .i64 a.til]
def NoteV.cells (a : NoteV) : Array Value := #[.string a.name, .int .i64 a.node, .int .i64 a.x, .int .i64 a.y, .int .i64 a.til]

def mayB (a : NoteV) (now : Int) : Bool := tickB now && decide (a.name.size = 32) && peerB a.node && chk a.x a.y && decide (now ≤ a.til) && decide (a.til ≤ 1099511627776)

set_option maxHeartbeats 400000 in
theorem may_any (s : ByteArray) (nd x y u now : Int) (w : World) :
    Calls Tryd.prog 20 #[.agg #[.string s, .int .i64 nd, .int .i64 x, .int .i64 y, .int .i64 u], .int .i64 now] w fun e w' => e = .returned (.bool (mayB ⟨s, nd, x, y, u⟩ now)) ∧ Ext w w' := by
  generalize hT : tickB now = bT at *
  generalize hP : peerB nd = bP at *
  generalize hC : chk x y = bC at *
  have h0 : mayB ⟨s, nd, x, y, u⟩ now = (bT && decide (s.size = 32) && bP && bC && decide (now ≤ u) && decide (u ≤ 1099511627776)) := by simp only [mayB, hT, hP, hC]
  have H0 := Lib.hid h0
  have HT := Lib.hid hT
  have HPr := Lib.hid hP
  have HC := Lib.hid hC
  clear h0 hT hP hC
  cases bT with
  | false =>
    go_enter Tryd.func20, Tryd.ntmps20
    go_wp2_with (go_at_call 15; refine (tick_any _ _).mono ?_; rintro e w1 ⟨rfl, rfl⟩; rw [HT.out])
    go_ret
    exact ⟨by rw [H0.out]; simp, by (repeat' (first | exact Ext.refl _ | assumption | (apply Ext.after; assumption) | (refine Ext.alloc ?_ _) | (refine Ext.drew ?_) | (refine Ext.drewN ?_ _) | (refine Ext.setCell ?_ ?_ _) | (simp; done) | (simp; omega) | omega))⟩
  | true =>
    by_cases hs : s.size = 32
    · cases bP with
      | false =>
        go_enter Tryd.func20, Tryd.ntmps20
        go_wp2_with (first | (go_at_call 15; refine (tick_any _ _).mono ?_; rintro e w1 ⟨rfl, rfl⟩; rw [HT.out]) | (go_at_call 22; refine (peer_any _ _).mono ?_; rintro e w1 ⟨rfl, rfl⟩; rw [HPr.out]))
        go_ret
        exact ⟨by rw [H0.out]; simp, by (repeat' (first | exact Ext.refl _ | assumption | (apply Ext.after; assumption) | (refine Ext.alloc ?_ _) | (refine Ext.drew ?_) | (refine Ext.drewN ?_ _) | (refine Ext.setCell ?_ ?_ _) | (simp; done) | (simp; omega) | omega))⟩
      | true =>
        cases bC with
        | false =>
          go_enter Tryd.func20, Tryd.ntmps20
          go_wp2_with (first | (go_at_call 15; refine (tick_any _ _).mono ?_; rintro e w1 ⟨rfl, rfl⟩; rw [HT.out]) | (go_at_call 22; refine (peer_any _ _).mono ?_; rintro e w1 ⟨rfl, rfl⟩; rw [HPr.out]) | (go_at_call 16; refine (Check_any _ _ _).mono ?_; rintro e w2 ⟨rfl, hx⟩; rw [HC.out]))
          go_ret
          exact ⟨by rw [H0.out]; simp, by (repeat' (first | exact Ext.refl _ | assumption | (apply Ext.after; assumption) | (refine Ext.alloc ?_ _) | (refine Ext.drew ?_) | (refine Ext.drewN ?_ _) | (refine Ext.setCell ?_ ?_ _) | (simp; done) | (simp; omega) | omega))⟩
        | true =>
          have hs' : ((s.size : Int) == 32) = true := by rw [beq_iff_eq]; omega
          by_cases h1 : now ≤ u
          all_goals by_cases h2 : u ≤ 1099511627776
          all_goals
            go_enter Tryd.func20, Tryd.ntmps20
            go_wp2_with (first | (go_at_call 15; refine (tick_any _ _).mono ?_; rintro e w1 ⟨rfl, rfl⟩; rw [HT.out]) | (go_at_call 22; refine (peer_any _ _).mono ?_; rintro e w1 ⟨rfl, rfl⟩; rw [HPr.out]) | (go_at_call 16; refine (Check_any _ _ _).mono ?_; rintro e w2 ⟨rfl, hx⟩; rw [HC.out]; have k4 := hx.cell_one 4; simp at k4))
            go_ret
            exact ⟨by rw [H0.out]; simp [hs] <;> omega, by (repeat' (first | exact Ext.refl _ | assumption | (apply Ext.after; assumption) | (refine Ext.alloc ?_ _) | (refine Ext.drew ?_) | (refine Ext.drewN ?_ _) | (refine Ext.setCell ?_ ?_ _) | (simp; done) | (simp; omega) | omega))⟩
    · have hs' : ((s.size : Int) == 32) = false := by rw [beq_eq_false_iff_ne]; omega
      go_enter Tryd.func20, Tryd.ntmps20
      go_wp2_with (go_at_call 15; refine (tick_any _ _).mono ?_; rintro e w1 ⟨rfl, rfl⟩; rw [HT.out])
      go_ret
      exact ⟨by rw [H0.out]; simp [hs], by (repeat' (first | exact Ext.refl _ | assumption | (apply Ext.after; assumption) | (refine Ext.alloc ?_ _) | (refine Ext.drew ?_) | (refine Ext.drewN ?_ _) | (refine Ext.setCell ?_ ?_ _) | (simp; done) | (simp; omega) | omega))⟩

end Go.Proofs.YtleogddijlabdaaDoor
