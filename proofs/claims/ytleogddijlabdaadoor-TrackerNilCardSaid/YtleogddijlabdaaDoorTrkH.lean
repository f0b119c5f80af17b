/- The sweep, said of a table; a new table. -/
import Derived.Test.YtleogddijlabdaaDoorTrkG
set_option linter.unusedSimpArgs false
set_option linter.unusedVariables false
namespace Go.Proofs.YtleogddijlabdaaDoor
open Go.RowKit Go.Maps

def sweptT (T : List UInt8 → Nat → Option NoteV) (now : Int) : List UInt8 → Nat → Option NoteV := fun k => sweptA (T k) now

theorem EntAt.mono {S S' : Nat → Prop} {w : World} {b : Nat} {A : Nat → Option NoteV} (h : EntAt S w b A) (hs : ∀ b, S' b → S b) : EntAt S' w b A := by
  obtain ⟨Q, h1, h2⟩ := h
  refine ⟨Q, h1, fun i hi => ?_⟩
  have := h2 i hi
  cases hq : Q i <;> cases ha : A i <;> rw [hq, ha] at this <;> simp only [NoteAt] at this ⊢
  exact ⟨fun e => this.1 (hs _ e), this.2⟩

theorem noneB_none {A : Nat → Option NoteV} (h : noneB A = true) (i : Nat) (hi : i < 16) : A i = none := by
  have := List.all_eq_true.1 h i (List.mem_range'.2 ⟨i, hi, by omega⟩)
  simpa using this

theorem sweep_tab {S : Nat → Prop} {tb mb n : Nat} {room : Int} {F : List UInt8 → Option Nat} {D : DataW Value} {T : List UInt8 → Nat → Option NoteV} (now : Int) (w : World) (h : TabAt S w tb mb n room F D T) :
    Calls Tryd.prog 21 #[.pointer (some ⟨tb, 0, none⟩), .int .i64 now] w fun e w' => e = .returned (.tuple #[]) ∧
      ∃ S' F' D', TabAt S' w' tb mb n room F' D' (sweptT T now) ∧ ExtS S w w' ∧ (∀ b, S' b → S b) := by
  refine (sweep_at now w h).mono ?_
  rintro e w' ⟨rfl, Dc, left, hs, hl⟩
  have hT : ∀ k, Tl T now left k = sweptT T now k := fun k => by unfold Tl sweptT; rw [hl]; simp
  have hF : ∀ k, Fl F T now left k = if noneB (sweptA (T k) now) then none else F k := fun k => by unfold Fl; rw [hl]; simp
  have hsub : ∀ b, (b = mb ∨ ∃ k, Fl F T now left k = some b) → S b := fun b hb => (h.own b).2 (by
    rcases hb with hb | ⟨k, hk⟩
    · exact Or.inl hb
    · exact Or.inr ⟨k, Fl_sub _ _ hk⟩)
  refine ⟨rfl, fun b => b = mb ∨ ∃ k, Fl F T now left k = some b, Fl F T now left, Dc, ⟨hs.ext.cellAt h.tbS h.room, hs.ext.cellAt h.tbS h.mp, ⟨hs.rng.owns, hs.tidy, hs.has, hs.at_⟩, fun k b hb => ?_, fun k k' b h1 h2 => h.inj k k' b (Fl_sub _ _ h1) (Fl_sub _ _ h2), fun k hk i hi => ?_, fun b => Iff.rfl, fun e => h.tbS (hsub _ e), fun k hk => h.keys k (fun e => hk ?_)⟩, hs.ext, hsub⟩
  · have := hs.ent k b hb
    rw [hT] at this
    exact this.mono hsub
  · rw [hF] at hk
    cases hn : noneB (sweptA (T k) now) with
    | true => exact noneB_none hn i hi
    | false =>
      rw [hn] at hk; simp at hk
      show sweptA (T k) now i = none
      unfold sweptA; rw [h.no k hk i hi]
  · rw [hF, e]; simp

set_option maxHeartbeats 1000000 in
theorem New_any (room : Int) (hr : 1 ≤ room ∧ room ≤ 64) (w : World) : Calls Tryd.prog 13 #[.int .i64 room] w fun e w' =>
    ∃ S tb, e = .returned (.pointer (some ⟨tb, 0, none⟩)) ∧ Tab S w' tb 0 room (fun _ _ => none) ∧ Ext w w' ∧ (∀ b, S b → w.heap.size ≤ b) := by
  obtain ⟨h1, h2⟩ := hr
  have hmm : ∀ w : World, (Instr.makeMap 59 none).run Tryd.prog w = .ok (.map (some w.heap.size)) (w.alloc (.map #[] 0)) := fun _ => by kernel_rfl
  go_enter Tryd.func13, Tryd.ntmps13
  go_wp2
  go_ret
  have hx : Ext w (w.alloc (Obj.map #[] 0)) := Ext.alloc (Ext.refl _) _
  have hsz : (w.alloc (Obj.map #[] 0)).heap.size = w.heap.size + 1 := by simp
  refine ⟨fun b => b = w.heap.size, w.heap.size + 1, rfl, ⟨w.heap.size, fun _ => none, _, ⟨?_, ?_, (MapF.made w).ext (Ext.alloc (Ext.refl _) _), fun _ _ h => (by cases h), fun _ _ _ h => (by cases h), fun _ _ _ _ => rfl, fun b => ⟨Or.inl, fun h => h.elim id (fun ⟨_, h⟩ => (by cases h))⟩, fun h => by omega, fun _ h => absurd rfl h⟩⟩, Ext.alloc hx _, fun b h => by omega⟩
  · have := news_of (w.alloc (Obj.map #[] 0)) #[Value.int IntKind.i64 room, Value.map (some w.heap.size)] 61 0 _ rfl
    rw [hsz] at this; exact this
  · have := news_of (w.alloc (Obj.map #[] 0)) #[Value.int IntKind.i64 room, Value.map (some w.heap.size)] 61 1 _ rfl
    rw [hsz] at this; exact this

end Go.Proofs.YtleogddijlabdaaDoor
