/- A note put into a table; a new entry. -/
import Derived.Test.YtleogddijlabdaaDoorTrkI
set_option linter.unusedSimpArgs false
set_option linter.unusedVariables false
namespace Go.Proofs.YtleogddijlabdaaDoor
open Go.RowKit Go.Maps

theorem ExtS.set_new {S : Nat → Prop} {w x : World} {b : Nat} (h : ExtS S w x) (hb : w.heap.size ≤ b) (i : Nat) (v : Value) : ExtS S w (x.setCell ⟨b, i, none⟩ v) := by
  have k := (ExtBut.refl b x).setCell i v
  exact ⟨k.os.trans h.os, k.tape.trans h.tape, k.output.trans h.output, Nat.le_trans h.size k.size, fun z hz hn => (k.block z (Nat.lt_of_lt_of_le hz h.size) (by omega)).trans (h.block z hz hn)⟩

theorem EntAt.put {S : Nat → Prop} {w : World} {b nb : Nat} {A : Nat → Option NoteV} (h : EntAt S w b A) (hb : S b) {i : Nat} (hi : i < 16) {a : NoteV} (hn : ¬ S nb) (hc : ∀ j u, a.list[j]? = some u → w.cell? ⟨nb, j, none⟩ = some u) :
    EntAt S (w.setCell ⟨b, i, none⟩ (.pointer (some ⟨nb, 0, none⟩))) b (fun j => if j = i then some a else A j) := by
  obtain ⟨Q, h1, h2⟩ := h
  have hx : ExtS S w (w.setCell ⟨b, i, none⟩ (.pointer (some ⟨nb, 0, none⟩))) := ExtS.of_but ((ExtBut.refl b w).setCell i _) (Or.inl hb)
  refine ⟨fun j => if j = i then some nb else Q j, ?_, fun j hj => ?_⟩
  · rw [heap_setCell_same w b i (ptrs Q) _ _ h1]
    have := ptrs_set Q hi (some nb)
    rw [show ptrTo (some nb) = Value.pointer (some ⟨nb, 0, none⟩) from rfl] at this
    rw [this]
  · by_cases e : j = i
    · simp only [e, if_true, NoteAt]
      exact ⟨hn, fun k u hu => hx.cellAt hn (hc k u hu)⟩
    · simp only [if_neg e]; exact hx.note (h2 j hj)

theorem TabAt.put {S : Nat → Prop} {w : World} {tb mb n b nb : Nat} {room : Int} {F : List UInt8 → Option Nat} {D : DataW Value} {T : List UInt8 → Nat → Option NoteV} (h : TabAt S w tb mb n room F D T)
    {k : List UInt8} (hk : F k = some b) {i : Nat} (hi : i < 16) {a : NoteV} (hn : ¬ S nb) (hc : ∀ j u, a.list[j]? = some u → w.cell? ⟨nb, j, none⟩ = some u) :
    TabAt S (w.setCell ⟨b, i, none⟩ (.pointer (some ⟨nb, 0, none⟩))) tb mb n room F D (fun k' i' => if k' = k ∧ i' = i then some a else T k' i') := by
  have hb : S b := (h.own b).2 (Or.inr ⟨k, hk⟩)
  have hbut := (ExtBut.refl b w).setCell i (Value.pointer (some ⟨nb, 0, none⟩))
  have hx : ExtS S w (w.setCell ⟨b, i, none⟩ (.pointer (some ⟨nb, 0, none⟩))) := ExtS.of_but hbut (Or.inl hb)
  have hbm : mb ≠ b := by
    intro e
    obtain ⟨Q, hq, _⟩ := h.ent _ b hk
    obtain ⟨es, clock, hm, _⟩ := h.map.own
    rw [← e, hm] at hq; cases hq
  refine ⟨hx.cellAt h.tbS h.room, hx.cellAt h.tbS h.mp, ⟨?_, h.map.tidy, h.map.has, h.map.at_⟩, fun k' b' hb' => ?_, h.inj, fun k' hk' i' hi' => ?_, h.own, h.tbS, h.keys⟩
  · obtain ⟨es, clock, hm, r⟩ := h.map.own
    exact ⟨es, clock, by rw [hbut.block mb (Array.getElem?_eq_some_iff.1 hm).1 hbm]; exact hm, r⟩
  · by_cases e : k' = k
    · subst e
      rw [hk] at hb'; cases hb'
      refine ((h.ent _ _ hk).put hb hi hn hc).congr fun j hj => ?_
      simp
    · have hne : b' ≠ b := fun e2 => e (h.inj _ _ _ hb' (e2 ▸ hk))
      refine ((h.ent _ _ hb').but hbut hne hb).congr fun j hj => ?_
      simp [e]
  · have e : k' ≠ k := fun e => by rw [e, hk] at hk'; cases hk'
    simp only [e, false_and, if_false]; exact h.no k' hk' i' hi'

theorem TabAt.fresh {S : Nat → Prop} {w W w' : World} {tb mb n b : Nat} {room : Int} {F : List UInt8 → Option Nat} {D D' : DataW Value} {T : List UInt8 → Nat → Option NoteV} (h : TabAt S w tb mb n room F D T)
    {k : List UInt8} (hk : F k = none) (hl : k.length ≤ 1000) (hx : Ext w W) (hb : w.heap.size ≤ b) (hW : W.heap[b]? = some (.cells (ptrs fun _ => none) 66 (0, 0)))
    (hm : MapF w' mb (n + 1) (fun k' => if k' = k then some b else F k') D') (hg : W.grownBy w' (some mb)) :
    TabAt (fun z => S z ∨ z = b) w' tb mb (n + 1) room (fun k' => if k' = k then some b else F k') D' T := by
  have hmS : S mb := (h.own mb).2 (Or.inl rfl)
  have hmlt := h.lt hmS
  have hg6 := ExtS.of_grown (S := S) hg (Or.inl hmS)
  have hxS : ExtS S w w' := (ExtS.of_ext hx).trans hg6
  refine ⟨hxS.cellAt h.tbS h.room, hxS.cellAt h.tbS h.mp, hm, fun k' b' hb' => ?_, fun k1 k2 b' h1 h2 => ?_, fun k' hk' i hi => ?_, fun z => ⟨fun hz => ?_, fun hz => ?_⟩, fun e => ?_, fun k' hk' => ?_⟩
  · by_cases e : k' = k
    · rw [if_pos e] at hb'; cases hb'
      subst e
      refine ⟨fun _ => none, ?_, fun i hi => ?_⟩
      · rw [hg.block b (Array.getElem?_eq_some_iff.1 hW).1 (fun e => by cases e; omega)]; exact hW
      · rw [h.no _ hk i hi]; trivial
    · rw [if_neg e] at hb'
      obtain ⟨Q, h1, h2⟩ := (h.ent _ _ hb').ext hx
      have hne : b' ≠ mb := by
        intro e
        obtain ⟨Q, hq, _⟩ := h.ent _ b' hb'
        obtain ⟨es, clock, hm, _⟩ := h.map.own
        rw [e, hm] at hq; cases hq
      refine ⟨Q, by rw [hg.block b' (Array.getElem?_eq_some_iff.1 h1).1 (fun e => hne (by cases e; rfl))]; exact h1, fun i hi => ?_⟩
      obtain ⟨Q0, g1, g2⟩ := h.ent _ _ hb'
      have hq := h1
      rw [hx.block (Array.getElem?_eq_some_iff.1 g1).1, g1] at hq
      have hQ : Q0 i = Q i := by
        have e1 : ptrs Q0 = ptrs Q := by simpa using hq
        have e2 := ptrs_get Q0 hi
        rw [e1, ptrs_get Q hi] at e2
        have e3 := Option.some.inj e2
        revert e3
        cases Q i <;> cases Q0 i <;> simp [ptrTo] <;> exact fun h => h.symm
      have := g2 i hi
      rw [hQ] at this
      cases hqi : Q i <;> cases hti : T k' i <;> rw [hqi, hti] at this <;> simp only [NoteAt] at this ⊢
      refine ⟨fun e => e.elim this.1 (fun e => ?_), fun j u hu => hxS.cellAt this.1 (this.2 j u hu)⟩
      have := World.block_lt_of_cell? w _ (this.2 0 _ rfl)
      simp at this; omega
  · have hnew : ∀ k0, F k0 ≠ some b := fun k0 e => by
      have := h.lt ((h.own b).2 (Or.inr ⟨k0, e⟩)); omega
    by_cases e1 : k1 = k <;> by_cases e2 : k2 = k <;> simp only [e1, e2, if_true, if_false] at h1 h2
    · rw [e1, e2]
    · cases h1; exact absurd h2 (hnew _)
    · cases h2; exact absurd h1 (hnew _)
    · exact h.inj _ _ _ h1 h2
  · by_cases e : k' = k
    · rw [if_pos e] at hk'; cases hk'
    · rw [if_neg e] at hk'; exact h.no _ hk' i hi
  · rcases hz with hz | rfl
    · rcases (h.own z).1 hz with hz | ⟨k0, hz⟩
      · exact Or.inl hz
      · refine Or.inr ⟨k0, ?_⟩
        rw [if_neg (fun e => by rw [e, hk] at hz; cases hz)]; exact hz
    · exact Or.inr ⟨k, by simp⟩
  · rcases hz with hz | ⟨k0, hz⟩
    · exact Or.inl ((h.own z).2 (Or.inl hz))
    · by_cases e : k0 = k
      · rw [if_pos e] at hz; cases hz; exact Or.inr rfl
      · rw [if_neg e] at hz; exact Or.inl ((h.own z).2 (Or.inr ⟨k0, hz⟩))
  · rcases e with e | rfl
    · exact h.tbS e
    · have := World.block_lt_of_cell? w _ h.room
      simp at this; omega
  · by_cases e : k' = k
    · rw [e]; exact hl
    · rw [if_neg e] at hk'; exact h.keys _ hk'

end Go.Proofs.YtleogddijlabdaaDoor
