/- Small words for all walks: worlds that only grow. -/
import Derived.WalkKit
import Derived.WalkSpells
import Derived.WalkLawsBesides
import Derived.Deep.QuietTactic
import Derived.BigQuiet
import Derived.Lib.Hide
import Derived.Deep.RegionHeld3
set_option linter.unusedSimpArgs false
set_option linter.unusedVariables false
namespace Go.Proofs.YtleogddijlabdaaDoor
open Go.RowKit

/-- All that was there is as it was; there may be more. -/
def Ext (w w' : World) : Prop := Below w.heap.size w w'

theorem Ext.refl (w : World) : Ext w w := Below.refl _ _
theorem Ext.trans {a b c : World} (h : Ext a b) (k : Ext b c) : Ext a c := Below.trans h (Below.mono k h.size)
theorem Ext.size {a b : World} (h : Ext a b) : a.heap.size ≤ b.heap.size := Below.size h
theorem Ext.alloc {a b : World} (h : Ext a b) (o : Obj) : Ext a (b.alloc o) := Below.alloc h h.size o
theorem Ext.drew {a b : World} (h : Ext a b) : Ext a b.drew := Below.drew h
theorem Ext.drewN {a b : World} (h : Ext a b) (n : Nat) : Ext a (b.drewN n) := h.trans ⟨rfl, rfl, rfl, Nat.le_refl _, fun _ _ => rfl⟩
theorem Ext.setCell {a b : World} (h : Ext a b) {p : Addr} (hp : a.heap.size ≤ p.block) (u : Value) : Ext a (b.setCell p u) := Below.setCell h hp u
theorem Ext.cell {W w1 : World} (h : Ext W w1) : ∀ b o, b < W.heap.size → w1.cell? ⟨b, o, none⟩ = W.cell? ⟨b, o, none⟩ := fun b o k => Below.cell h (p := ⟨b, o, none⟩) k
theorem Ext.frozen {W w1 : World} (h : Ext W w1) : ∀ b o, b < W.heap.size → w1.frozen? ⟨b, o, none⟩ = W.frozen? ⟨b, o, none⟩ := fun b o k => Below.frozen h (p := ⟨b, o, none⟩) k
theorem Ext.cellAt {W w1 : World} (h : Ext W w1) {p : Addr} {v : Value} (k : W.cell? p = some v) : w1.cell? p = some v := by
  rw [Below.cell h (World.block_lt_of_cell? W _ k)]; exact k
theorem Ext.frozenAt {W w1 : World} (h : Ext W w1) {p : Addr} {v : Value} (k : W.cell? p = some v) (hf : W.frozen? p = false) : w1.frozen? p = false := by
  rw [Below.frozen h (World.block_lt_of_cell? W _ k)]; exact hf
theorem Ext.frozenLt {W w1 : World} (h : Ext W w1) {p : Addr} (k : p.block < W.heap.size) (hf : W.frozen? p = false) : w1.frozen? p = false := by
  rw [Below.frozen h k]; exact hf
theorem Ext.after {a b c : World} (k : Ext b c) (h : Ext a b) : Ext a c := h.trans k
theorem Ext.below {W w1 : World} (h : Ext W w1) : Below W.heap.size W w1 := h
theorem Ext.of_below {W w1 : World} (h : Below W.heap.size W w1) : Ext W w1 := h
theorem Ext.block {W w1 : World} (h : Ext W w1) {k : Nat} (hk : k < W.heap.size) : w1.heap[k]? = W.heap[k]? := Below.block h k hk
theorem Ext.tape {W w1 : World} (h : Ext W w1) : w1.tape = W.tape := Below.tape h

theorem Ext.cell_one {w w1 : World} {A : Array Value} {t : TypeId} (h : Ext (w.alloc (.cells A t)) w1) (i : Nat) : w1.cell? ⟨w.heap.size, i, none⟩ = A[i]? := by
  rw [h.cell _ _ (by simp)]; exact World.cell?_alloc_at (w := w) A t _ i rfl
theorem Ext.cell_two0 {w w1 : World} {A : Array Value} {t : TypeId} {o : Obj} (h : Ext ((w.alloc (.cells A t)).alloc o) w1) (i : Nat) : w1.cell? ⟨w.heap.size, i, none⟩ = A[i]? := by
  rw [h.cell _ _ (by simp; omega), World.cell?_alloc_past (w := w.alloc (.cells A t)) o _ i (by simp)]; exact World.cell?_alloc_at (w := w) A t _ i rfl
theorem Ext.cell_two1 {w w1 : World} {B : Array Value} {t : TypeId} {o : Obj} (h : Ext ((w.alloc o).alloc (.cells B t)) w1) (i : Nat) : w1.cell? ⟨w.heap.size + 1, i, none⟩ = B[i]? := by
  rw [h.cell _ _ (by simp)]; exact World.cell?_alloc_at (w := w.alloc o) B t _ i (by simp)
theorem Ext.cell_three0 {w w1 : World} {A : Array Value} {t : TypeId} {o p : Obj} (h : Ext (((w.alloc (.cells A t)).alloc o).alloc p) w1) (i : Nat) : w1.cell? ⟨w.heap.size, i, none⟩ = A[i]? := by
  rw [h.cell _ _ (by simp; omega), World.cell?_alloc_past (w := (w.alloc (.cells A t)).alloc o) p _ i (by simp; omega)]; exact (Ext.refl _).cell_two0 i
theorem Ext.cell_three1 {w w1 : World} {B : Array Value} {t : TypeId} {o p : Obj} (h : Ext (((w.alloc o).alloc (.cells B t)).alloc p) w1) (i : Nat) : w1.cell? ⟨w.heap.size + 1, i, none⟩ = B[i]? := by
  rw [h.cell _ _ (by simp), World.cell?_alloc_past (w := (w.alloc o).alloc (.cells B t)) p _ i (by simp)]; exact (Ext.refl _).cell_two1 i
theorem Ext.cell_three2 {w w1 : World} {B : Array Value} {t : TypeId} {o p : Obj} (h : Ext (((w.alloc o).alloc p).alloc (.cells B t)) w1) (i : Nat) : w1.cell? ⟨w.heap.size + 1 + 1, i, none⟩ = B[i]? := by
  rw [h.cell _ _ (by simp)]; exact World.cell?_alloc_at (w := (w.alloc o).alloc p) B t _ i (by simp)
theorem Ext.frozen_three2 {w w1 : World} {B : Array Value} {t : TypeId} {o p : Obj} (h : Ext (((w.alloc o).alloc p).alloc (.cells B t)) w1) (i : Nat) : w1.frozen? ⟨w.heap.size + 1 + 1, i, none⟩ = false := by
  rw [h.frozen _ _ (by simp)]; exact World.frozen?_alloc_at (w := (w.alloc o).alloc p) B t _ i (by simp)
theorem cell_set (w : World) (a b : Addr) (v : Value) : (w.setCell a v).cell? b = if a = b then (w.cell? b).map (fun _ => v) else w.cell? b := by
  by_cases h : a = b
  · subst h; rw [if_pos rfl]
    cases hc : w.cell? a with
    | none =>
      simp only [World.cell?, World.setCell, Array.getElem?_modify, if_true] at hc ⊢
      cases hb : w.heap[a.block]? with
      | none => simp [hb]
      | some o =>
        cases o with
        | cells c t fr =>
          rw [hb] at hc
          simp only [hb, Option.map_some]
          cases hs : a.spot.isSome
          · simp [hs] at hc ⊢
            exact hc
          · simp [hs]
        | _ => simp [hb]
    | some u => rw [World.cell?_setCell_same _ _ _ hc]; rfl
  · rw [if_neg h, World.cell?_setCell_other _ _ _ _ h]

/-- What stands in a cell. -/
def cellOf (w : World) (b i : Nat) : Value := (w.cell? ⟨b, i, none⟩).getD undef
/-- The first n cells of block b are there and may be written. -/
def Wr (n b : Nat) (w : World) : Prop := ∀ i, i < n → (w.cell? ⟨b, i, none⟩).isSome = true ∧ w.frozen? ⟨b, i, none⟩ = false
theorem Wr.cell {n b : Nat} {w : World} (h : Wr n b w) {i : Nat} (hi : i < n) : w.cell? ⟨b, i, none⟩ = some (cellOf w b i) := by
  obtain ⟨v, hv⟩ := Option.isSome_iff_exists.1 (h i hi).1
  rw [cellOf, hv]; rfl
theorem Wr.frozen {n b : Nat} {w : World} (h : Wr n b w) {i : Nat} (hi : i < n) : w.frozen? ⟨b, i, none⟩ = false := (h i hi).2
theorem Wr.setCell {n b : Nat} {w : World} (h : Wr n b w) (a : Addr) (v : Value) : Wr n b (w.setCell a v) := fun i hi => by
  refine ⟨?_, by rw [World.frozen?_setCell]; exact (h i hi).2⟩
  rw [cell_set]; split
  · simpa using (h i hi).1
  · exact (h i hi).1
theorem Wr.ext {n b : Nat} {w w1 : World} (h : Wr n b w) (k : Ext w w1) : Wr n b w1 := fun i hi => by
  have := h.cell hi
  have hlt := World.block_lt_of_cell? w _ this
  exact ⟨by rw [k.cell _ _ hlt]; exact (h i hi).1, by rw [k.frozen _ _ hlt]; exact (h i hi).2⟩
theorem Wr.drew {n b : Nat} {w : World} (h : Wr n b w) : Wr n b w.drew := h
theorem Wr.alloc {n b : Nat} {w : World} (h : Wr n b w) (o : Obj) : Wr n b (w.alloc o) := h.ext ((Ext.refl w).alloc o)
theorem Wr.new (w : World) (A : Array Value) (t : TypeId) (n : Nat) (h : n ≤ A.size) : Wr n w.heap.size (w.alloc (.cells A t)) := fun i hi =>
  ⟨by rw [World.cell?_alloc_at (w := w) A t _ i rfl]; simp; omega, World.frozen?_alloc_at (w := w) A t _ i rfl⟩
theorem Wr.newAt (w : World) (A : Array Value) (t : TypeId) (n b : Nat) (h : n ≤ A.size) (hb : b = w.heap.size) : Wr n b (w.alloc (.cells A t)) := by
  subst hb; exact Wr.new w A t n h
theorem Wr.after {n b : Nat} {w w1 : World} (k : Ext w w1) (h : Wr n b w) : Wr n b w1 := h.ext k

/-- Behind an append onto a row of the call's own. -/
theorem Ext.grown {W w w0 w' : World} {base : Nat} {e : TypeId} {size : Nat} {v : Value} {n : Nat} {xs : List Value} (h : Ext W w) (hown : w0.ownsRow base e size v n xs) (hg : w.grownBy w' v.ownBlock) (hb : W.heap.size ≤ base) : Ext W w' :=
  Below.grown h hg h.size fun q hq => by
    rcases hown.2 with ⟨rfl, _⟩ | ⟨g, cap, cur, rfl, hg', _⟩
    · simp [Value.ownBlock] at hq
    · simp [Value.ownBlock] at hq; omega

end Go.Proofs.YtleogddijlabdaaDoor
