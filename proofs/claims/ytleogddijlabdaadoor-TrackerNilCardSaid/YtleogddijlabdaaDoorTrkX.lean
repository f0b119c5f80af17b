/- A note is equal to itself. -/
import Derived.Test.YtleogddijlabdaaDoorTrkQ
import Derived.Laws.StructEq
set_option linter.unusedSimpArgs false
set_option linter.unusedVariables false
namespace Go.Proofs.YtleogddijlabdaaDoor
open Go.RowKit Go.Maps

theorem eq_place (x y : Int) (d : Nat) (w : World) : (Op.equalIn (d + 1 + 1) 23 (.agg #[.int .i64 x, .int .i64 y]) (.agg #[.int .i64 x, .int .i64 y])).run Tryd.prog w = .ok true w := by
  have hS : Tryd.prog.underlying 23 = some (.struct (Tryd.prog.fieldsOf 23)) := by kernel_rfl
  have u3 := Tryd.underlying3
  rw [run_equalIn_struct w (d + 1) 23 _ _ hS (by kernel_rfl)]
  simp only [Program.fieldsOf, Tryd.underlying23]
  go_simp

theorem eq_note (s : ByteArray) (nd x y u : Int) (w : World) : (Op.equalIn 10000 25 (.agg #[.string s, .int .i64 nd, .int .i64 x, .int .i64 y, .int .i64 u]) (.agg #[.string s, .int .i64 nd, .int .i64 x, .int .i64 y, .int .i64 u])).run Tryd.prog w = .ok true w := by
  have hS : Tryd.prog.underlying 25 = some (.struct (Tryd.prog.fieldsOf 25)) := by kernel_rfl
  have u3 := Tryd.underlying3
  have u9 := Tryd.underlying9
  have hp := fun w => eq_place x y 9997 w
  rw [show (10000 : Nat) = 9999 + 1 from rfl, run_equalIn_struct w 9999 25 _ _ hS (by kernel_rfl)]
  simp only [Program.fieldsOf, Tryd.underlying25]
  go_simp

end Go.Proofs.YtleogddijlabdaaDoor
