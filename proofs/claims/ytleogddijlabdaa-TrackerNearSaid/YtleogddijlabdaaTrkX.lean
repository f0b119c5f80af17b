/- A note is equal to itself. -/
import Derived.Test.YtleogddijlabdaaTrkQ
import Derived.Laws.StructEq
set_option linter.unusedSimpArgs false
set_option linter.unusedVariables false
namespace Go.Proofs.Ytleogddijlabdaa
open Go.RowKit Go.Maps

theorem eq_place (x y : Int) (d : Nat) (w : World) : (Op.equalIn (d + 1 + 1) 23 (.agg #[.int .i64 x, .int .i64 y]) (.agg #[.int .i64 x, .int .i64 y])).run Try.prog w = .ok true w := by
  have hS : Try.prog.underlying 23 = some (.struct (Try.prog.fieldsOf 23)) := by kernel_rfl
  have u3 := Try.underlying3
  rw [run_equalIn_struct w (d + 1) 23 _ _ hS (by kernel_rfl)]
  simp only [Program.fieldsOf, Try.underlying23]
  go_simp

theorem eq_note (s : ByteArray) (nd x y u : Int) (w : World) : (Op.equalIn 10000 38 (.agg #[.string s, .int .i64 nd, .int .i64 x, .int .i64 y, .int .i64 u]) (.agg #[.string s, .int .i64 nd, .int .i64 x, .int .i64 y, .int .i64 u])).run Try.prog w = .ok true w := by
  have hS : Try.prog.underlying 38 = some (.struct (Try.prog.fieldsOf 38)) := by kernel_rfl
  have u3 := Try.underlying3
  have u9 := Try.underlying9
  have hp := fun w => eq_place x y 9997 w
  rw [show (10000 : Nat) = 9999 + 1 from rfl, run_equalIn_struct w 9999 38 _ _ hS (by kernel_rfl)]
  simp only [Program.fieldsOf, Try.underlying38]
  go_simp

end Go.Proofs.Ytleogddijlabdaa
