/- A table that is still empty: other blocks may be written. -/
import Derived.Test.YtleogddijlabdaaDoorTrkW
set_option linter.unusedSimpArgs false
set_option linter.unusedVariables false
namespace Go.Proofs.YtleogddijlabdaaDoor
open Go.RowKit Go.Maps

/-- An empty table whose blocks all came behind 'base'. -/
def Fresh (base : Nat) (w : World) (tb : Nat) (room : Int) : Prop :=
  ∃ S mb D, TabAt S w tb mb 0 room (fun _ => none) D (fun _ _ => none) ∧ base ≤ tb ∧ base ≤ mb ∧ ∀ b, S b → base ≤ b

theorem Fresh.ext {base : Nat} {w w' : World} {tb : Nat} {room : Int} (h : Fresh base w tb room) (k : Ext w w') : Fresh base w' tb room := by
  obtain ⟨S, mb, D, h1, h2⟩ := h
  exact ⟨S, mb, D, h1.ext k, h2⟩
theorem Fresh.but {base z : Nat} {w w' : World} {tb : Nat} {room : Int} (h : Fresh base w tb room) (k : ExtBut z w w') (hz : z < base) : Fresh base w' tb room := by
  obtain ⟨S, mb, D, h, h2, h3, h4⟩ := h
  have kc : ∀ {p : Addr} {v : Value}, p.block ≠ z → w.cell? p = some v → w'.cell? p = some v := fun {p v} hp hc => by
    rw [World.cell?_of_block (w := w) (k.block p.block (World.block_lt_of_cell? w _ hc) hp)]; exact hc
  refine ⟨S, mb, D, ⟨kc (by show tb ≠ z; omega) h.room, kc (by show tb ≠ z; omega) h.mp, ⟨?_, h.map.tidy, h.map.has, h.map.at_⟩, fun _ _ h => (by cases h), fun _ _ _ h => (by cases h), h.no, h.own, h.tbS, h.keys⟩, h2, h3, h4⟩
  obtain ⟨es, clock, hb, r⟩ := h.map.own
  exact ⟨es, clock, by rw [k.block mb (Array.getElem?_eq_some_iff.1 hb).1 (by omega)]; exact hb, r⟩
theorem Fresh.inv {w : World} {base tb : Nat} {room : Int} (h : Fresh base w tb room) (hb : base ≤ w.heap.size) : TInv base w w tb 0 room (fun _ _ => none) := by
  obtain ⟨S, mb, D, h, h2, h3, h4⟩ := h
  exact ⟨hb, S, ⟨mb, _, D, h⟩, Below.refl _ _, h4⟩

set_option maxHeartbeats 1000000 in
theorem New_fresh (room : Int) (hr : 1 ≤ room ∧ room ≤ 64) (w : World) : Calls Tryd.prog 13 #[.int .i64 room] w fun e w' =>
    ∃ tb, e = .returned (.pointer (some ⟨tb, 0, none⟩)) ∧ Fresh w.heap.size w' tb room ∧ Ext w w' := by
  obtain ⟨h1, h2⟩ := hr
  have hmm : ∀ w : World, (Instr.makeMap 59 none).run Tryd.prog w = .ok (.map (some w.heap.size)) (w.alloc (.map #[] 0)) := fun _ => by kernel_rfl
  go_enter Tryd.func13, Tryd.ntmps13
  go_wp2
  go_ret
  have hx : Ext w (w.alloc (Obj.map #[] 0)) := Ext.alloc (Ext.refl _) _
  have hsz : (w.alloc (Obj.map #[] 0)).heap.size = w.heap.size + 1 := by simp
  refine ⟨w.heap.size + 1, rfl, ⟨fun b => b = w.heap.size, w.heap.size, _, ⟨?_, ?_, (MapF.made w).ext (Ext.alloc (Ext.refl _) _), fun _ _ h => (by cases h), fun _ _ _ h => (by cases h), fun _ _ _ _ => rfl, fun b => ⟨Or.inl, fun h => h.elim id (fun ⟨_, h⟩ => (by cases h))⟩, fun h => by omega, fun _ h => absurd rfl h⟩, by omega, Nat.le_refl _, fun b h => by omega⟩, Ext.alloc hx _⟩
  · have := news_of (w.alloc (Obj.map #[] 0)) #[Value.int IntKind.i64 room, Value.map (some w.heap.size)] 61 0 _ rfl
    rw [hsz] at this; exact this
  · have := news_of (w.alloc (Obj.map #[] 0)) #[Value.int IntKind.i64 room, Value.map (some w.heap.size)] 61 1 _ rfl
    rw [hsz] at this; exact this

end Go.Proofs.YtleogddijlabdaaDoor
