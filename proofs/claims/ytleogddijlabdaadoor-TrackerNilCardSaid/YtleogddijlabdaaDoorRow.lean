/- A row of whole numbers in one block, and worlds in which that block alone is written. -/
import Derived.Test.YtleogddijlabdaaDoorBase
set_option linter.unusedSimpArgs false
set_option linter.unusedVariables false
namespace Go.Proofs.YtleogddijlabdaaDoor
open Go.RowKit

/-- The first n cells of block b are the numbers f, and may be written. -/
def Row (w : World) (b n : Nat) (f : Nat → Int) : Prop := ∀ i, i < n → w.cell? ⟨b, i, none⟩ = some (.int .i64 (f i)) ∧ w.frozen? ⟨b, i, none⟩ = false

/-- All that was there, but for block b, is as it was. -/
structure ExtBut (b : Nat) (w w' : World) : Prop where
  os : w'.os = w.os
  tape : w'.tape = w.tape
  output : w'.output = w.output
  size : w.heap.size ≤ w'.heap.size
  block : ∀ k, k < w.heap.size → k ≠ b → w'.heap[k]? = w.heap[k]?

theorem ExtBut.refl (b : Nat) (w : World) : ExtBut b w w := ⟨rfl, rfl, rfl, Nat.le_refl _, fun _ _ _ => rfl⟩
theorem ExtBut.trans {b : Nat} {x y z : World} (h : ExtBut b x y) (k : ExtBut b y z) : ExtBut b x z :=
  ⟨k.os.trans h.os, k.tape.trans h.tape, k.output.trans h.output, Nat.le_trans h.size k.size, fun i hi hb => (k.block i (Nat.lt_of_lt_of_le hi h.size) hb).trans (h.block i hi hb)⟩
theorem ExtBut.of_ext {b : Nat} {x y : World} (h : Ext x y) : ExtBut b x y :=
  ⟨Below.os h, Below.tape h, Below.output h, Below.size h, fun k hk _ => Below.block h k hk⟩
theorem ExtBut.drew {b : Nat} {x y : World} (h : ExtBut b x y) : ExtBut b x y.drew := ⟨h.os, h.tape, h.output, h.size, h.block⟩
theorem ExtBut.setCell {b : Nat} {x y : World} (h : ExtBut b x y) (i : Nat) (v : Value) : ExtBut b x (y.setCell ⟨b, i, none⟩ v) :=
  h.trans ⟨rfl, rfl, rfl, by simp, fun k _ hb => Below.heap_setCell _ _ _ _ hb⟩
theorem ExtBut.cellAt {b : Nat} {x y : World} (h : ExtBut b x y) {p : Addr} {v : Value} (hp : p.block ≠ b) (k : x.cell? p = some v) : y.cell? p = some v := by
  rw [World.cell?_of_block (w := x) (h.block p.block (World.block_lt_of_cell? x _ k) hp)]; exact k
theorem ExtBut.frozenAt {b : Nat} {x y : World} (h : ExtBut b x y) {p : Addr} (hp : p.block ≠ b) (hl : p.block < x.heap.size) : y.frozen? p = x.frozen? p :=
  World.frozen?_of_block (w := x) (h.block p.block hl hp)
/-- Where the block is one of the call's own, all that was there is as it was. -/
theorem ExtBut.ext {b : Nat} {x y z : World} (h : ExtBut b y z) (k : Ext x y) (hb : x.heap.size ≤ b) : Ext x z :=
  Below.trans k (⟨h.os, h.tape, h.output, h.size, fun i hi => h.block i (Nat.lt_of_lt_of_le hi k.size) (by omega)⟩ : Below x.heap.size y z)

theorem Row.ext {w w' : World} {b n : Nat} {f : Nat → Int} (h : Row w b n f) (k : Ext w w') : Row w' b n f := fun i hi =>
  ⟨k.cellAt (h i hi).1, k.frozenAt (h i hi).1 (h i hi).2⟩
theorem Row.drew {w : World} {b n : Nat} {f : Nat → Int} (h : Row w b n f) : Row w.drew b n f := h
theorem Row.congr {w : World} {b n : Nat} {f g : Nat → Int} (h : Row w b n f) (e : ∀ i, i < n → g i = f i) : Row w b n g := fun i hi => by
  rw [e i hi]; exact h i hi
/-- Two numbers of the row changed places. -/
def ex (f : Nat → Int) (i j p : Nat) : Int := if p = j then f i else if p = i then f j else f p
theorem Row.swap {w : World} {b n i j : Nat} {f : Nat → Int} (h : Row w b n f) (hi : i < n) (hj : j < n) :
    Row ((w.setCell ⟨b, i, none⟩ (.int .i64 (f j))).setCell ⟨b, j, none⟩ (.int .i64 (f i))) b n (ex f i j) := fun p hp => by
  have h1 := h p hp
  refine ⟨?_, by rw [World.frozen?_setCell, World.frozen?_setCell]; exact h1.2⟩
  rw [cell_set, cell_set]
  unfold ex
  by_cases e1 : p = j
  · subst e1
    rw [if_pos rfl, if_pos rfl]
    split <;> simp [h1.1]
  · have n1 : ¬ ((⟨b, j, none⟩ : Addr) = ⟨b, p, none⟩) := by simp only [ne_eq, Addr.mk.injEq]; omega
    rw [if_neg n1, if_neg e1]
    by_cases e2 : p = i
    · subst e2; rw [if_pos rfl, if_pos rfl, h1.1]; rfl
    · have n2 : ¬ ((⟨b, i, none⟩ : Addr) = ⟨b, p, none⟩) := by simp only [ne_eq, Addr.mk.injEq]; omega
      rw [if_neg n2, if_neg e2]; exact h1.1

end Go.Proofs.YtleogddijlabdaaDoor
