/- Places and notes that came in, opened to their cells. -/
import Derived.Test.YtleogddijlabdaaDoorTrkB
import Derived.ProofKit
import Derived.OpenShut
import Derived.Carry
import Derived.Lib.SmallJoins
set_option linter.unusedSimpArgs false
set_option linter.unusedVariables false
set_option maxRecDepth 100000
namespace Go.Proofs.YtleogddijlabdaaDoor
open Go.ChangeShapes Go.WideShapes Go.ChangeAt Go.RowKit Go.Deep Go.Joins

section
variable {H : Type} {enc : TypeId × Value → H} {w : World} {base : Nat} {spare : Nat → Bool} {held : Bool}
theorem cells_int : Tryd.prog.cellsOf 3 = 1 := by kernel_rfl
theorem cells_str : Tryd.prog.cellsOf 9 = 1 := by kernel_rfl
theorem cells_place : Tryd.prog.cellsOf 23 = 2 := by kernel_rfl
theorem cells_note : Tryd.prog.cellsOf 25 = 5 := by kernel_rfl

theorem trod_place {fuel : Nat} {cs : List Value} {x : DataW H × List MemPlace} (h : DataW.trod enc Tryd.prog w base spare held fuel 23 cs = some x) : ∃ p q : Int, cs = [.int .i64 p, .int .i64 q] := by
  obtain ⟨xs, n, _, _, hl, hxl, hg⟩ := DataW.trod_struct Tryd.underlying23 h
  rw [cells_place] at hl
  match cs, hl with
  | [c0, c1], _ =>
    match xs, hxl with
    | [y0, y1], _ =>
      have g0 : DataW.trod enc Tryd.prog w base spare held n 3 [c0] = some y0 := by simpa [cells_int, cells_str, cells_place] using hg 0 _ rfl
      have g1 : DataW.trod enc Tryd.prog w base spare held n 3 [c1] = some y1 := by simpa [cells_int, cells_str, cells_place] using hg 1 _ rfl
      obtain ⟨p, hp, _⟩ := DataW.trod_int Tryd.underlying3 g0
      obtain ⟨q, hq, _⟩ := DataW.trod_int Tryd.underlying3 g1
      simp at hp hq
      exact ⟨p, q, by rw [hp, hq]⟩

theorem trod_note {fuel : Nat} {cs : List Value} {x : DataW H × List MemPlace} (h : DataW.trod enc Tryd.prog w base spare held fuel 25 cs = some x) : ∃ a : NoteV, cs = a.list ∧ a.name.size ≤ maxLen := by
  obtain ⟨xs, n, _, _, hl, hxl, hg⟩ := DataW.trod_struct Tryd.underlying25 h
  rw [cells_note] at hl
  match cs, hl with
  | [c0, c1, c2, c3, c4], _ =>
    match xs, hxl with
    | [y0, y1, y2, y3], _ =>
      have g0 : DataW.trod enc Tryd.prog w base spare held n 9 [c0] = some y0 := by simpa [cells_int, cells_str, cells_place] using hg 0 _ rfl
      have g1 : DataW.trod enc Tryd.prog w base spare held n 3 [c1] = some y1 := by simpa [cells_int, cells_str, cells_place] using hg 1 _ rfl
      have g2 : DataW.trod enc Tryd.prog w base spare held n 23 [c2, c3] = some y2 := by simpa [cells_int, cells_str, cells_place] using hg 2 _ rfl
      have g3 : DataW.trod enc Tryd.prog w base spare held n 3 [c4] = some y3 := by simpa [cells_int, cells_str, cells_place] using hg 3 _ rfl
      obtain ⟨s, hs, _, hsz⟩ := DataW.trod_string Tryd.underlying9 g0
      obtain ⟨nd, hn, _⟩ := DataW.trod_int Tryd.underlying3 g1
      obtain ⟨p, q, hpq⟩ := trod_place g2
      obtain ⟨u, hu, _⟩ := DataW.trod_int Tryd.underlying3 g3
      simp at hs hn hpq hu
      exact ⟨⟨s, nd, p, q, u⟩, by rw [hs, hn, hpq.1, hpq.2, hu]; rfl, hsz⟩

theorem open_note {r : Reach} {b0 : Nat} {v : Value} {d : DataW H} {p : List MemPlace} (hv : Value.okWide Tryd.prog w r b0 25 v) (h : DataW.Trod enc Tryd.prog w base spare held 25 v d p) : ∃ a : NoteV, v = a.val ∧ a.name.size ≤ maxLen := by
  obtain ⟨cs, rfl, hsz⟩ := okWide_struct Tryd.underlying25 hv
  obtain ⟨fuel, hf⟩ := h
  obtain ⟨a, ha, hs⟩ := trod_note hf
  refine ⟨a, ?_, hs⟩
  obtain ⟨l⟩ := cs
  simp [Value.cells] at ha
  rw [ha]; rfl
end
end Go.Proofs.YtleogddijlabdaaDoor
