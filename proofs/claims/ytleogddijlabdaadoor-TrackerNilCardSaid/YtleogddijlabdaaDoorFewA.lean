/- Acts, what is asked, and the law's guard. -/
import Derived.Test.YtleogddijlabdaaDoorTrkX
set_option linter.unusedSimpArgs false
set_option linter.unusedVariables false
namespace Go.Proofs.YtleogddijlabdaaDoor
open Go.RowKit Go.Maps Go.Sort

structure ActV where
  kind : Int
  now : Int
  note : NoteV
def ActV.list (a : ActV) : List Value := [.int .i64 a.kind, .int .i64 a.now, .string a.note.name, .int .i64 a.note.node, .int .i64 a.note.x, .int .i64 a.note.y, .int .i64 a.note.til]
structure AskV where
  name : ByteArray
  title : ByteArray
  x : Int
  y : Int
  k : Int
  now : Int
def AskV.cells (a : AskV) : Array Value := #[.string a.name, .string a.title, .int .i64 a.x, .int .i64 a.y, .int .i64 a.k, .int .i64 a.now]
def AskV.val (a : AskV) : Value := .agg #[.string a.name, .string a.title, .int .i64 a.x, .int .i64 a.y, .int .i64 a.k, .int .i64 a.now]

def actAt (l : List ActV) (i : Nat) : ActV := (l[i]?).getD ⟨0, 0, ⟨ByteArray.empty, 0, 0, 0, 0⟩⟩
theorem actAt_eq {l : List ActV} {i : Nat} (h : i < l.length) : actAt l i = l[i] := by simp [actAt, List.getElem?_eq_getElem h]

/-- A slice of acts. -/
def ASl (w : World) (v : Value) (l : List ActV) : Prop :=
  (l = [] ∧ ∃ a cap, v = .slice a 0 cap) ∨ ∃ b off cap, v = .slice (some ⟨b, off, none⟩) l.length cap ∧ ∀ i, i < l.length → ∀ (j : Nat) u, (actAt l i).list[j]? = some u → w.cell? ⟨b, off + i * 7 + j, none⟩ = some u
theorem ASl.ext {w w' : World} {v : Value} {l : List ActV} (h : ASl w v l) (k : Ext w w') : ASl w' v l := by
  rcases h with h | ⟨b, off, cap, hv, hc⟩
  · exact Or.inl h
  · exact Or.inr ⟨b, off, cap, hv, fun i hi j u hu => k.cellAt (hc i hi j u hu)⟩
theorem ASl.shape {w : World} {v : Value} {l : List ActV} (h : ASl w v l) : ∃ a cap, v = .slice a l.length cap := by
  rcases h with ⟨rfl, a, cap, rfl⟩ | ⟨b, off, cap, rfl, _⟩
  · exact ⟨_, _, rfl⟩
  · exact ⟨_, _, rfl⟩
/-- The cells of an act. -/
theorem ASl.cells {w : World} {a : Option Addr} {n cap : Nat} {l : List ActV} (h : ASl w (.slice a n cap) l) {i : Nat} (hi : i < l.length) :
    ∃ b off, a = some ⟨b, off, none⟩ ∧ w.cell? ⟨b, off + i * 7, none⟩ = some (.int .i64 (actAt l i).kind) ∧ w.cell? ⟨b, off + i * 7 + 1, none⟩ = some (.int .i64 (actAt l i).now) ∧ w.cell? ⟨b, off + i * 7 + 2, none⟩ = some (.string (actAt l i).note.name) ∧
      w.cell? ⟨b, off + i * 7 + 3, none⟩ = some (.int .i64 (actAt l i).note.node) ∧ w.cell? ⟨b, off + i * 7 + 4, none⟩ = some (.int .i64 (actAt l i).note.x) ∧ w.cell? ⟨b, off + i * 7 + 5, none⟩ = some (.int .i64 (actAt l i).note.y) ∧ w.cell? ⟨b, off + i * 7 + 6, none⟩ = some (.int .i64 (actAt l i).note.til) := by
  rcases h with ⟨rfl, _⟩ | ⟨b, off, cap', hv, hc⟩
  · simp at hi
  · cases hv
    exact ⟨b, off, rfl, hc i hi 0 _ rfl, hc i hi 1 _ rfl, hc i hi 2 _ rfl, hc i hi 3 _ rfl, hc i hi 4 _ rfl, hc i hi 5 _ rfl, hc i hi 6 _ rfl⟩

def fewB (l : List ActV) (x : AskV) : Bool := decide (l.length ≤ 60) && (l.all fun a => decide (a.note.name.size ≤ 100)) && decide (x.name.size ≤ 100) && decide (x.title.size ≤ 100)
theorem fewB_long {l : List ActV} {x : AskV} (h : 60 < l.length) : fewB l x = false := by
  have : ¬ l.length ≤ 60 := by omega
  simp [fewB, this]
theorem fewB_act {l : List ActV} {x : AskV} {i : Nat} (hi : i < l.length) (h : 100 < (actAt l i).note.name.size) : fewB l x = false := by
  rw [actAt_eq hi] at h
  have : (l.all fun a => decide (a.note.name.size ≤ 100)) = false := by
    rw [List.all_eq_false]
    exact ⟨l[i], List.getElem_mem hi, by simp; omega⟩
  simp [fewB, this]
theorem fewB_end {l : List ActV} {x : AskV} (h1 : l.length ≤ 60) (h2 : ∀ j, j < l.length → (actAt l j).note.name.size ≤ 100) : fewB l x = (decide (x.name.size ≤ 100) && decide (x.title.size ≤ 100)) := by
  have : (l.all fun a => decide (a.note.name.size ≤ 100)) = true := by
    rw [List.all_eq_true]
    intro a ha
    obtain ⟨i, hi, rfl⟩ := List.getElem_of_mem ha
    have := h2 i hi
    rw [actAt_eq hi] at this
    simpa using this
  simp [fewB, this, h1]
theorem fewB_true {l : List ActV} {x : AskV} (h : fewB l x = true) : l.length ≤ 60 ∧ (∀ j, j < l.length → (actAt l j).note.name.size ≤ 100) ∧ x.name.size ≤ 100 ∧ x.title.size ≤ 100 := by
  simp only [fewB, Bool.and_eq_true, decide_eq_true_eq, List.all_eq_true] at h
  obtain ⟨⟨⟨h1, h2⟩, h3⟩, h4⟩ := h
  exact ⟨h1, fun j hj => by rw [actAt_eq hj]; exact h2 _ (List.getElem_mem hj), h3, h4⟩

set_option maxHeartbeats 2000000 in
theorem few_any (v : Value) (l : List ActV) (x : AskV) (w : World) (hv : ASl w v l) (hl : l.length ≤ 9223372036854775807) :
    Calls Tryd.prog 4 #[v, x.val] w fun e w' => e = .returned (.bool (fewB l x)) ∧ Ext w w' := by
  obtain ⟨a, cap, rfl⟩ := hv.shape
  have HV := Lib.hid hv
  clear hv
  obtain ⟨xn, xt, xx, xy, xk, xw⟩ := x
  unfold AskV.val
  go_enter Tryd.func4, Tryd.ntmps4
  go_wp2_with fail
  go_loop [5] (fun iv => ∃ i : Nat, iv = .int .i64 i ∧ i ≤ l.length ∧ i ≤ 60 ∧ Hid (∀ j, j < i → (actAt l j).note.name.size ≤ 100)) (fun iv => l.length - (intOf iv).toNat)
  case atStart => exact ⟨0, rfl, by omega, by omega, fun j hj => by omega⟩
  case round =>
    obtain ⟨i, rfl, hi, hi60, hall⟩ := hrel
    by_cases hlt : i < l.length
    · by_cases h60 : i < 60
      · obtain ⟨b, off, rfl, c0, c1, c2, c3, c4, c5, c6⟩ := ASl.cells HV.out hlt
        have hx : Ext w (w.alloc (.cells #[.string xn, .string xt, .int .i64 xx, .int .i64 xy, .int .i64 xk, .int .i64 xw] 29)) := Ext.alloc (Ext.refl _) _
        have d2 := hx.cellAt c2
        clear c0 c1 c2 c3 c4 c5 c6 hx
        by_cases hs : (actAt l i).note.name.size ≤ 100
        · have hs' : ¬ (100 : Int) < ((actAt l i).note.name.size : Int) := by omega
          have HS := Lib.hid hs
          clear hs
          go_wp2_with fail
          go_round
          case rel => exact ⟨i + 1, by go_num, by omega, by omega, fun j hj => by
            by_cases e : j = i
            · subst e; exact HS.out
            · exact hall.out j (by omega)⟩
          case measure => simp [intOf]; omega
        · have hs' : (100 : Int) < ((actAt l i).note.name.size : Int) := by omega
          have HB := Lib.hid (fewB_act (x := ⟨xn, xt, xx, xy, xk, xw⟩) hlt (by omega))
          clear hs
          go_wp2_with fail
          go_ret
          exact ⟨by rw [HB.out]; rfl, by (repeat' (first | exact Ext.refl _ | assumption | (apply Ext.after; assumption) | (refine Ext.alloc ?_ _) | (refine Ext.drew ?_) | (refine Ext.drewN ?_ _) | (refine Ext.setCell ?_ ?_ _) | (simp; done) | (simp; omega) | omega))⟩
      · have HB := Lib.hid (fewB_long (l := l) (x := ⟨xn, xt, xx, xy, xk, xw⟩) (by omega))
        go_wp2_with fail
        go_ret
        exact ⟨by rw [HB.out]; rfl, by (repeat' (first | exact Ext.refl _ | assumption | (apply Ext.after; assumption) | (refine Ext.alloc ?_ _) | (refine Ext.drew ?_) | (refine Ext.drewN ?_ _) | (refine Ext.setCell ?_ ?_ _) | (simp; done) | (simp; omega) | omega))⟩
    · obtain rfl : i = l.length := by omega
      have HB := Lib.hid (fewB_end (l := l) (x := ⟨xn, xt, xx, xy, xk, xw⟩) hi60 hall.out)
      by_cases h1 : xn.size ≤ 100
      · have g1 : decide ((xn.size : Int) ≤ 100) = true := by simp; omega
        by_cases h2 : xt.size ≤ 100
        all_goals
          go_wp2_with fail
          go_ret
          exact ⟨by rw [HB.out]; simp [h1, h2] <;> omega, by (repeat' (first | exact Ext.refl _ | assumption | (apply Ext.after; assumption) | (refine Ext.alloc ?_ _) | (refine Ext.drew ?_) | (refine Ext.drewN ?_ _) | (refine Ext.setCell ?_ ?_ _) | (simp; done) | (simp; omega) | omega))⟩
      · have g1 : decide ((xn.size : Int) ≤ 100) = false := by simp; omega
        go_wp2_with fail
        go_ret
        exact ⟨by rw [HB.out]; simp [h1], by (repeat' (first | exact Ext.refl _ | assumption | (apply Ext.after; assumption) | (refine Ext.alloc ?_ _) | (refine Ext.drew ?_) | (refine Ext.drewN ?_ _) | (refine Ext.setCell ?_ ?_ _) | (simp; done) | (simp; omega) | omega))⟩

end Go.Proofs.YtleogddijlabdaaDoor
