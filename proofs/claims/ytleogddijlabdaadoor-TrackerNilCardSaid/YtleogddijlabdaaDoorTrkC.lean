/- A table in memory; what is announced of a name. -/
import Derived.Test.YtleogddijlabdaaDoorTrkB
set_option linter.unusedSimpArgs false
set_option linter.unusedVariables false
namespace Go.Proofs.YtleogddijlabdaaDoor
open Go.RowKit Go.Maps

/-- A table: T is what it knows; S are the blocks that it writes. -/
structure TabAt (S : Nat → Prop) (w : World) (tb mb n : Nat) (room : Int) (F : List UInt8 → Option Nat) (D : DataW Value) (T : List UInt8 → Nat → Option NoteV) : Prop where
  room : w.cell? ⟨tb, 0, none⟩ = some (.int .i64 room)
  mp : w.cell? ⟨tb, 1, none⟩ = some (.map (some mb))
  map : MapF w mb n F D
  ent : ∀ k b, F k = some b → EntAt S w b (T k)
  inj : ∀ k k' b, F k = some b → F k' = some b → k = k'
  no : ∀ k, F k = none → ∀ i, i < 16 → T k i = none
  own : ∀ b, S b ↔ b = mb ∨ ∃ k, F k = some b
  tbS : ¬ S tb
  keys : ∀ k, F k ≠ none → k.length ≤ 1000
def Tab (S : Nat → Prop) (w : World) (tb n : Nat) (room : Int) (T : List UInt8 → Nat → Option NoteV) : Prop := ∃ mb F D, TabAt S w tb mb n room F D T

theorem TabAt.ext {S : Nat → Prop} {w w' : World} {tb mb n : Nat} {room : Int} {F : List UInt8 → Option Nat} {D : DataW Value} {T : List UInt8 → Nat → Option NoteV} (h : TabAt S w tb mb n room F D T) (k : Ext w w') : TabAt S w' tb mb n room F D T :=
  ⟨k.cellAt h.room, k.cellAt h.mp, h.map.ext k, fun x b hb => (h.ent x b hb).ext k, h.inj, h.no, h.own, h.tbS, h.keys⟩
theorem Tab.ext {S : Nat → Prop} {w w' : World} {tb n : Nat} {room : Int} {T : List UInt8 → Nat → Option NoteV} (h : Tab S w tb n room T) (k : Ext w w') : Tab S w' tb n room T := by
  obtain ⟨mb, F, D, h⟩ := h
  exact ⟨mb, F, D, h.ext k⟩
theorem TabAt.lt {S : Nat → Prop} {w : World} {tb mb n : Nat} {room : Int} {F : List UInt8 → Option Nat} {D : DataW Value} {T : List UInt8 → Nat → Option NoteV} (h : TabAt S w tb mb n room F D T) {b : Nat} (hb : S b) : b < w.heap.size := by
  rcases (h.own b).1 hb with rfl | ⟨k, hk⟩
  · exact h.map.lt
  · obtain ⟨Q, hq, _⟩ := h.ent k b hk
    exact (Array.getElem?_eq_some_iff.1 hq).1

theorem countL_none {A : Nat → Option NoteV} {k : Nat} (h : ∀ i, i < k → A i = none) (now : Int) : countL A now k = [] := by
  induction k with
  | zero => rfl
  | succ k ih => simp [countL, ih (fun i hi => h i (by omega)), h k (by omega), countsB]

/-- What is announced of a name and counts. -/
def nodesL (T : List UInt8 → Nat → Option NoteV) (k : List UInt8) (now : Int) : List NoteV := if tickB now then countL (T k) now 16 else []

theorem NSl.nil (w : World) : NSl w (.slice none 0 0) [] := Or.inl ⟨rfl, _, _, rfl⟩

set_option maxRecDepth 100000 in
set_option maxHeartbeats 1000000 in
theorem Nodes_at {S : Nat → Prop} {tb mb n : Nat} {room : Int} {F : List UInt8 → Option Nat} {D : DataW Value} {T : List UInt8 → Nat → Option NoteV} (s : ByteArray) (hs : s.size ≤ 1000) (now : Int) (w : World) (h : TabAt S w tb mb n room F D T) :
    Calls Tryd.prog 11 #[.pointer (some ⟨tb, 0, none⟩), .string s, .int .i64 now] w fun e w' => NodesPost w w' (nodesL T s.data.toList now) e := by
  have H := Lib.hid h
  have hmp := h.mp
  have hl := h.map.lookup s hs
  cases hT : tickB now with
  | false =>
    have hz : nodesL T s.data.toList now = [] := by simp [nodesL, hT]
    rw [hz]
    have HT := Lib.hid hT
    clear h hT hz
    go_enter Tryd.func11, Tryd.ntmps11
    go_wp2_with (go_at_call 15; refine (tick_any _ _).mono ?_; rintro e w1 ⟨rfl, rfl⟩; rw [HT.out])
    go_ret
    exact ⟨_, rfl, NSl.nil _, Ext.refl _⟩
  | true =>
    have hz : nodesL T s.data.toList now = countL (T s.data.toList) now 16 := by simp [nodesL, hT]
    rw [hz]
    have HT := Lib.hid hT
    cases hF : F s.data.toList with
    | none =>
      rw [countL_none (h.no _ hF)]
      rw [hF] at hl
      simp only [ptrTo] at hl
      clear h hT hz hF
      go_enter Tryd.func11, Tryd.ntmps11
      go_wp2_with (go_at_call 15; refine (tick_any _ _).mono ?_; rintro e w1 ⟨rfl, rfl⟩; rw [HT.out])
      go_ret
      exact ⟨_, rfl, NSl.nil _, Ext.refl _⟩
    | some b =>
      rw [hF] at hl
      simp only [ptrTo] at hl
      have hc := counting_any S b (T s.data.toList) now w (h.ent _ b hF)
      have HC := Lib.hid hc
      clear h hT hz hF hc
      go_enter Tryd.func11, Tryd.ntmps11
      go_wp2_with (first | (go_at_call 15; refine (tick_any _ _).mono ?_; rintro e w1 ⟨rfl, rfl⟩; rw [HT.out]) | (go_at_call 25; refine HC.out.mono ?_; rintro e w1 ⟨v, rfl, hv, hx⟩))
      go_ret
      exact ⟨v, rfl, hv, hx⟩

theorem Nodes_any {S : Nat → Prop} {tb n : Nat} {room : Int} {T : List UInt8 → Nat → Option NoteV} (s : ByteArray) (hs : s.size ≤ 1000) (now : Int) (w : World) (h : Tab S w tb n room T) :
    Calls Tryd.prog 11 #[.pointer (some ⟨tb, 0, none⟩), .string s, .int .i64 now] w fun e w' => NodesPost w w' (nodesL T s.data.toList now) e := by
  obtain ⟨mb, F, D, h⟩ := h
  exact Nodes_at s hs now w h

end Go.Proofs.YtleogddijlabdaaDoor
