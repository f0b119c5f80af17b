/- Acts and what is asked, as they came in. -/
import Derived.Test.YtleogddijlabdaaDoorFewA
import Derived.Test.YtleogddijlabdaaDoorOpenN
set_option linter.unusedSimpArgs false
set_option linter.unusedVariables false
set_option maxRecDepth 100000
namespace Go.Proofs.YtleogddijlabdaaDoor
open Go.ChangeShapes Go.WideShapes Go.ChangeAt Go.RowKit Go.Deep Go.Joins

section
variable {H : Type} {enc : TypeId × Value → H} {w : World} {base : Nat} {spare : Nat → Bool} {held : Bool}
theorem cells_act : Tryd.prog.cellsOf 27 = 7 := by kernel_rfl
theorem cells_ask : Tryd.prog.cellsOf 29 = 6 := by kernel_rfl

theorem trod_act {fuel : Nat} {cs : List Value} {x : DataW H × List MemPlace} (h : DataW.trod enc Tryd.prog w base spare held fuel 27 cs = some x) : ∃ a : ActV, cs = a.list ∧ a.note.name.size ≤ maxLen := by
  obtain ⟨xs, n, _, _, hl, hxl, hg⟩ := DataW.trod_struct Tryd.underlying27 h
  rw [cells_act] at hl
  match cs, hl with
  | [c0, c1, c2, c3, c4, c5, c6], _ =>
    match xs, hxl with
    | [y0, y1, y2], _ =>
      have g0 : DataW.trod enc Tryd.prog w base spare held n 3 [c0] = some y0 := by simpa [cells_int, cells_note] using hg 0 _ rfl
      have g1 : DataW.trod enc Tryd.prog w base spare held n 3 [c1] = some y1 := by simpa [cells_int, cells_note] using hg 1 _ rfl
      have g2 : DataW.trod enc Tryd.prog w base spare held n 25 [c2, c3, c4, c5, c6] = some y2 := by simpa [cells_int, cells_note] using hg 2 _ rfl
      obtain ⟨k, hk, _⟩ := DataW.trod_int Tryd.underlying3 g0
      obtain ⟨nw, hn, _⟩ := DataW.trod_int Tryd.underlying3 g1
      obtain ⟨a, ha, hs⟩ := trod_note g2
      simp [NoteV.list] at hk hn ha
      obtain ⟨h0, h1, h2, h3, h4⟩ := ha
      exact ⟨⟨k, nw, a⟩, by rw [hk, hn, h0, h1, h2, h3, h4]; rfl, hs⟩

theorem trod_ask {fuel : Nat} {cs : List Value} {x : DataW H × List MemPlace} (h : DataW.trod enc Tryd.prog w base spare held fuel 29 cs = some x) : ∃ a : AskV, cs = a.cells.toList ∧ a.name.size ≤ maxLen ∧ a.title.size ≤ maxLen := by
  obtain ⟨xs, n, _, _, hl, hxl, hg⟩ := DataW.trod_struct Tryd.underlying29 h
  rw [cells_ask] at hl
  match cs, hl with
  | [c0, c1, c2, c3, c4, c5], _ =>
    match xs, hxl with
    | [y0, y1, y2, y3, y4], _ =>
      have g0 : DataW.trod enc Tryd.prog w base spare held n 9 [c0] = some y0 := by simpa [cells_int, cells_str, cells_place] using hg 0 _ rfl
      have g1 : DataW.trod enc Tryd.prog w base spare held n 9 [c1] = some y1 := by simpa [cells_int, cells_str, cells_place] using hg 1 _ rfl
      have g2 : DataW.trod enc Tryd.prog w base spare held n 23 [c2, c3] = some y2 := by simpa [cells_int, cells_str, cells_place] using hg 2 _ rfl
      have g3 : DataW.trod enc Tryd.prog w base spare held n 3 [c4] = some y3 := by simpa [cells_int, cells_str, cells_place] using hg 3 _ rfl
      have g4 : DataW.trod enc Tryd.prog w base spare held n 3 [c5] = some y4 := by simpa [cells_int, cells_str, cells_place] using hg 4 _ rfl
      obtain ⟨s, hs, _, hsz⟩ := DataW.trod_string Tryd.underlying9 g0
      obtain ⟨t, ht, _, htz⟩ := DataW.trod_string Tryd.underlying9 g1
      obtain ⟨p, q, hpq⟩ := trod_place g2
      obtain ⟨k, hk, _⟩ := DataW.trod_int Tryd.underlying3 g3
      obtain ⟨nw, hn, _⟩ := DataW.trod_int Tryd.underlying3 g4
      simp at hs ht hpq hk hn
      exact ⟨⟨s, t, p, q, k, nw⟩, by rw [hs, ht, hpq.1, hpq.2, hk, hn]; rfl, hsz, htz⟩

theorem open_ask {r : Reach} {b0 : Nat} {v : Value} {d : DataW H} {p : List MemPlace} (hv : Value.okWide Tryd.prog w r b0 29 v) (h : DataW.Trod enc Tryd.prog w base spare held 29 v d p) : ∃ a : AskV, v = a.val ∧ a.name.size ≤ maxLen ∧ a.title.size ≤ maxLen := by
  obtain ⟨cs, rfl, hsz⟩ := okWide_struct Tryd.underlying29 hv
  obtain ⟨fuel, hf⟩ := h
  obtain ⟨a, ha, hs⟩ := trod_ask hf
  refine ⟨a, ?_, hs⟩
  obtain ⟨l⟩ := cs
  simp only [Value.cells, AskV.cells] at ha
  rw [AskV.val, ← AskV.cells]
  exact congrArg Value.agg (by unfold AskV.cells; rw [← ha])

theorem open_act {r : Reach} {b0 : Nat} {v : Value} {d : DataW H} {p : List MemPlace} (hv : Value.okWide Tryd.prog w r b0 27 v) (h : DataW.Trod enc Tryd.prog w base spare held 27 v d p) : ∃ a : ActV, v = .agg a.list.toArray ∧ a.note.name.size ≤ maxLen := by
  obtain ⟨cs, rfl, hsz⟩ := okWide_struct Tryd.underlying27 hv
  obtain ⟨fuel, hf⟩ := h
  obtain ⟨a, ha, hs⟩ := trod_act hf
  refine ⟨a, ?_, hs⟩
  obtain ⟨l⟩ := cs
  simp only [Value.cells] at ha
  rw [ha]

theorem open_acts {r : Reach} {b0 : Nat} {v : Value} {d : DataW H} {p : List MemPlace} (hv : Value.okWide Tryd.prog w r b0 32 v) (h : DataW.Trod enc Tryd.prog w base spare held 32 v d p) : ∃ l : List ActV, ASl w v l ∧ l.length ≤ 9223372036854775807 := by
  obtain ⟨a0, len0, cap0, rfl⟩ := okWide_slice Tryd.underlying32 hv
  obtain ⟨fuel, hf⟩ := h
  rcases open_slice Tryd.underlying32 hf with ⟨h0, _⟩ | ⟨a, len, cap, m, n, D, Pl, hcs, _, hl, hm, hmm, _, hi⟩
  · simp [Value.cells] at h0
    obtain ⟨rfl, rfl, rfl⟩ := h0
    exact ⟨[], Or.inl ⟨rfl, _, _, rfl⟩, by simp⟩
  · simp [Value.cells] at hcs
    obtain ⟨rfl, rfl, rfl⟩ := hcs
    unfold maxLen at hm
    have hlm : len0 ≤ m := by rw [hmm]; split <;> omega
    by_cases hz : len0 = 0
    · subst hz; exact ⟨[], Or.inl ⟨rfl, _, _, rfl⟩, by simp⟩
    · have key : ∀ i, i < len0 → ∃ q : ActV, ∀ (j : Nat) u, q.list[j]? = some u → w.cell? ((a.add (i * 7)).add j) = some u := fun i hil => by
        obtain ⟨cs', hc, ht'⟩ := hi i (by omega)
        rw [cells_act] at hc
        obtain ⟨_, hcl, hat⟩ := World.cells?_some hc
        obtain ⟨q, hq, _⟩ := trod_act ht'
        refine ⟨q, fun j u hj => ?_⟩
        have hj7 : j < 7 := by
          have := (List.getElem?_eq_some_iff.1 hj).1
          simpa [ActV.list] using this
        rw [hat j hj7, hq]; exact hj
      have hsp : a.spot = none := by
        obtain ⟨q, hq⟩ := key 0 (by omega)
        have := World.cell?_spot (hq 0 _ rfl)
        simpa [Addr.add] using this
      obtain ⟨b, off, spot⟩ := a
      simp only at hsp
      subst hsp
      obtain ⟨f, hf⟩ : ∃ f : Nat → ActV, ∀ i, i < len0 → ∀ (j : Nat) u, (f i).list[j]? = some u → w.cell? (((⟨b, off, none⟩ : Addr).add (i * 7)).add j) = some u :=
        ⟨fun i => if h : i < len0 then Classical.choose (key i h) else ⟨0, 0, ⟨ByteArray.empty, 0, 0, 0, 0⟩⟩, fun i h => by simp only [dif_pos h]; exact Classical.choose_spec (key i h)⟩
      have an : ∀ o k, (⟨b, o, none⟩ : Addr).add k = ⟨b, o + k, none⟩ := fun o k => by
        simp only [Addr.add]; split
        · rename_i h; subst h; rfl
        · simp
      refine ⟨(List.range len0).map f, Or.inr ⟨b, off, cap0, by simp, fun i hil j u hj => ?_⟩, by simp; omega⟩
      have hil' : i < len0 := by simpa using hil
      have e : actAt ((List.range len0).map f) i = f i := by rw [actAt_eq hil]; simp
      rw [e] at hj
      have := hf i hil' j u hj
      rw [an, an] at this; exact this
end
end Go.Proofs.YtleogddijlabdaaDoor
