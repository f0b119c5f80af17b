/- The sweep of a table: what does not count any more is forgotten. -/
import Derived.Test.YtleogddijlabdaaDoorTrkE
import Derived.Test.YtleogddijlabdaaDoorRow
set_option linter.unusedSimpArgs false
set_option linter.unusedVariables false
namespace Go.Proofs.YtleogddijlabdaaDoor
open Go.RowKit Go.Maps

/-- All that was there, but for the blocks of S, is as it was. -/
structure ExtS (S : Nat → Prop) (w w' : World) : Prop where
  os : w'.os = w.os
  tape : w'.tape = w.tape
  output : w'.output = w.output
  size : w.heap.size ≤ w'.heap.size
  block : ∀ k, k < w.heap.size → ¬ S k → w'.heap[k]? = w.heap[k]?
theorem ExtS.refl (S : Nat → Prop) (w : World) : ExtS S w w := ⟨rfl, rfl, rfl, Nat.le_refl _, fun _ _ _ => rfl⟩
theorem ExtS.trans {S : Nat → Prop} {x y z : World} (h : ExtS S x y) (k : ExtS S y z) : ExtS S x z :=
  ⟨k.os.trans h.os, k.tape.trans h.tape, k.output.trans h.output, Nat.le_trans h.size k.size, fun i hi hb => (k.block i (Nat.lt_of_lt_of_le hi h.size) hb).trans (h.block i hi hb)⟩
theorem ExtS.of_ext {S : Nat → Prop} {x y : World} (h : Ext x y) : ExtS S x y := ⟨Below.os h, Below.tape h, Below.output h, Below.size h, fun k hk _ => Below.block h k hk⟩
theorem ExtS.of_but {S : Nat → Prop} {b : Nat} {x y : World} (h : ExtBut b x y) (hb : S b ∨ x.heap.size ≤ b) : ExtS S x y :=
  ⟨h.os, h.tape, h.output, h.size, fun k hk hn => h.block k hk (fun e => by rcases hb with hb | hb; exact hn (e ▸ hb); omega)⟩
theorem ExtS.of_grown {S : Nat → Prop} {b : Nat} {x y : World} (h : x.grownBy y (some b)) (hb : S b ∨ x.heap.size ≤ b) : ExtS S x y :=
  ⟨h.os, h.tape, h.output, h.size, fun k hk hn => h.block k hk (fun e => by cases e; rcases hb with hb | hb; exact hn hb; omega)⟩
theorem ExtS.cellAt {S : Nat → Prop} {x y : World} (h : ExtS S x y) {p : Addr} {v : Value} (hp : ¬ S p.block) (k : x.cell? p = some v) : y.cell? p = some v := by
  rw [World.cell?_of_block (w := x) (h.block p.block (World.block_lt_of_cell? x _ k) hp)]; exact k
theorem ExtS.note {S : Nat → Prop} {x y : World} (h : ExtS S x y) {q : Option Nat} {a : Option NoteV} (k : NoteAt S x q a) : NoteAt S y q a := by
  cases q <;> cases a <;> simp only [NoteAt] at k ⊢
  exact ⟨k.1, fun j u hu => h.cellAt k.1 (k.2 j u hu)⟩
theorem ExtS.ext {S : Nat → Prop} {x y z : World} (h : ExtS S y z) (k : Ext x y) (hS : ∀ b, S b → x.heap.size ≤ b) : Ext x z :=
  Below.trans k (⟨h.os, h.tape, h.output, h.size, fun i hi => h.block i (Nat.lt_of_lt_of_le hi k.size) (fun e => by have := hS i e; omega)⟩ : Below x.heap.size y z)

def sweptA (A : Nat → Option NoteV) (now : Int) (i : Nat) : Option NoteV :=
  match A i with
  | some a => if a.til < now then none else some a
  | none => none
def noneB (A : Nat → Option NoteV) : Bool := (List.range' 0 16 1).all fun i => (A i).isNone

theorem note_none {S : Nat → Prop} {w : World} {q : Option Nat} {a : Option NoteV} (h : NoteAt S w q a) : q.isNone = a.isNone := by
  cases q <;> cases a <;> simp_all [NoteAt]

theorem noneB_of {S : Nat → Prop} {w : World} {Q : Nat → Option Nat} {A : Nat → Option NoteV} (h : ∀ i, i < 16 → NoteAt S w (Q i) (A i)) : ((List.range' 0 16 1).all fun i => (Q i).isNone) = noneB A := by
  unfold noneB
  rw [Bool.eq_iff_iff, List.all_eq_true, List.all_eq_true]
  constructor
  · intro k i hi
    have := List.mem_range'.1 hi
    rw [← note_none (h i (by omega))]; exact k i hi
  · intro k i hi
    have := List.mem_range'.1 hi
    rw [note_none (h i (by omega))]; exact k i hi

/-- A store of nil into an entry. -/
theorem EntAt.strike {S : Nat → Prop} {w : World} {b : Nat} {A : Nat → Option NoteV} (h : EntAt S w b A) (hb : S b) {i : Nat} (hi : i < 16) : EntAt S (w.setCell ⟨b, i, none⟩ (.pointer none)) b (fun j => if j = i then none else A j) := by
  obtain ⟨Q, h1, h2⟩ := h
  have hx : ExtS S w (w.setCell ⟨b, i, none⟩ (.pointer none)) := ExtS.of_but ((ExtBut.refl b w).setCell i _) (Or.inl hb)
  refine ⟨fun j => if j = i then none else Q j, ?_, fun j hj => ?_⟩
  · rw [heap_setCell_same w b i (ptrs Q) _ _ h1]
    have := ptrs_set Q hi none
    rw [show ptrTo none = Value.pointer none from rfl] at this
    rw [this]
  · by_cases e : j = i
    · simp [e, NoteAt]
    · simp only [if_neg e]; exact hx.note (h2 j hj)

theorem EntAt.but {S : Nat → Prop} {w w' : World} {b b' : Nat} {A : Nat → Option NoteV} (h : EntAt S w b A) (k : ExtBut b' w w') (hne : b ≠ b') (hS : S b') : EntAt S w' b A := by
  obtain ⟨Q, h1, h2⟩ := h
  exact ⟨Q, by rw [k.block b (Array.getElem?_eq_some_iff.1 h1).1 hne]; exact h1, fun i hi => (ExtS.of_but k (Or.inl hS)).note (h2 i hi)⟩

theorem EntAt.congr {S : Nat → Prop} {w : World} {b : Nat} {A A' : Nat → Option NoteV} (h : EntAt S w b A) (e : ∀ i, i < 16 → A' i = A i) : EntAt S w b A' := by
  obtain ⟨Q, h1, h2⟩ := h
  exact ⟨Q, h1, fun i hi => by rw [e i hi]; exact h2 i hi⟩

/-- A map's iterator goes on: no cell is written. -/
theorem iter_cell {w w' : World} {r : Nat} {m : Option Nat} {a c : Nat} {s : Array Nat} (hr : w.heap[r]? = some (.mapIter m a s c)) (hg : w.grownBy w' (some r)) {p : Addr} {v : Value} (k : w.cell? p = some v) : w'.cell? p = some v := by
  have hne : p.block ≠ r := fun e => by
    simp only [World.cell?, e, hr] at k; cases k
  rw [World.cell?_of_block (w := w) (hg.block p.block (World.block_lt_of_cell? w _ k) (fun e => hne (by cases e; rfl)))]; exact k
theorem iter_ent {S : Nat → Prop} {w w' : World} {r b : Nat} {m : Option Nat} {a c : Nat} {s : Array Nat} {A : Nat → Option NoteV} (hr : w.heap[r]? = some (.mapIter m a s c)) (hg : w.grownBy w' (some r)) (h : EntAt S w b A) : EntAt S w' b A := by
  obtain ⟨Q, h1, h2⟩ := h
  have hne : b ≠ r := fun e => by rw [e, hr] at h1; cases h1
  refine ⟨Q, by rw [hg.block b (Array.getElem?_eq_some_iff.1 h1).1 (fun e => hne (by cases e; rfl))]; exact h1, fun i hi => ?_⟩
  have := h2 i hi
  revert this
  cases Q i <;> cases A i <;> simp only [NoteAt] <;> try exact id
  rintro ⟨g1, g2⟩
  exact ⟨g1, fun j u hu => iter_cell hr hg (g2 j u hu)⟩

/-- The round over one entry: places below i are swept. -/
def EntRel (S : Nat → Prop) (w : World) (b : Nat) (A : Nat → Option NoteV) (now : Int) (iv : Value) (wr : World) : Prop :=
  ∃ i : Nat, iv = .int .i64 i ∧ i ≤ 16 ∧ EntAt S wr b (fun j => if j < i then sweptA A now j else A j) ∧ ExtBut b w wr

end Go.Proofs.YtleogddijlabdaaDoor
