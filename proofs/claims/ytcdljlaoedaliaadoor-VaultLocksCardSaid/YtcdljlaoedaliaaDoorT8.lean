/- A word of eight, out of an array by value. -/
import Derived.Test.YtcdljlaoedaliaaDoorHs
import Derived.Laws.IdiomStrings
set_option linter.unusedVariables false
set_option linter.unusedSimpArgs false
namespace Go.Proofs.YtcdljlaoedaliaaDoor
open Go.RowKit Wd
theorem Tryd.u32size : (Tryd.prog.info? 95).map (fun i => (i.zero, i.size, i.bytes)) = some (some (.int .u32 0), 1, 4) := by kernel_rfl
set_option maxRecDepth 100000 in
@[go_sem high] theorem Tryd.run_index8_0 (w : World) (y0 y1 y2 y3 y4 y5 y6 y7 : Value) : (Instr.index 96 (.agg #[y0, y1, y2, y3, y4, y5, y6, y7]) (.int .i64 0)).run Tryd.prog w = .ok y0 w := by rfl
set_option maxRecDepth 100000 in
@[go_sem high] theorem Tryd.run_index8_1 (w : World) (y0 y1 y2 y3 y4 y5 y6 y7 : Value) : (Instr.index 96 (.agg #[y0, y1, y2, y3, y4, y5, y6, y7]) (.int .i64 1)).run Tryd.prog w = .ok y1 w := by rfl
set_option maxRecDepth 100000 in
@[go_sem high] theorem Tryd.run_index8_2 (w : World) (y0 y1 y2 y3 y4 y5 y6 y7 : Value) : (Instr.index 96 (.agg #[y0, y1, y2, y3, y4, y5, y6, y7]) (.int .i64 2)).run Tryd.prog w = .ok y2 w := by rfl
set_option maxRecDepth 100000 in
@[go_sem high] theorem Tryd.run_index8_3 (w : World) (y0 y1 y2 y3 y4 y5 y6 y7 : Value) : (Instr.index 96 (.agg #[y0, y1, y2, y3, y4, y5, y6, y7]) (.int .i64 3)).run Tryd.prog w = .ok y3 w := by rfl
set_option maxRecDepth 100000 in
@[go_sem high] theorem Tryd.run_index8_4 (w : World) (y0 y1 y2 y3 y4 y5 y6 y7 : Value) : (Instr.index 96 (.agg #[y0, y1, y2, y3, y4, y5, y6, y7]) (.int .i64 4)).run Tryd.prog w = .ok y4 w := by rfl
set_option maxRecDepth 100000 in
@[go_sem high] theorem Tryd.run_index8_5 (w : World) (y0 y1 y2 y3 y4 y5 y6 y7 : Value) : (Instr.index 96 (.agg #[y0, y1, y2, y3, y4, y5, y6, y7]) (.int .i64 5)).run Tryd.prog w = .ok y5 w := by rfl
set_option maxRecDepth 100000 in
@[go_sem high] theorem Tryd.run_index8_6 (w : World) (y0 y1 y2 y3 y4 y5 y6 y7 : Value) : (Instr.index 96 (.agg #[y0, y1, y2, y3, y4, y5, y6, y7]) (.int .i64 6)).run Tryd.prog w = .ok y6 w := by rfl
set_option maxRecDepth 100000 in
@[go_sem high] theorem Tryd.run_index8_7 (w : World) (y0 y1 y2 y3 y4 y5 y6 y7 : Value) : (Instr.index 96 (.agg #[y0, y1, y2, y3, y4, y5, y6, y7]) (.int .i64 7)).run Tryd.prog w = .ok y7 w := by rfl
end Go.Proofs.YtcdljlaoedaliaaDoor
