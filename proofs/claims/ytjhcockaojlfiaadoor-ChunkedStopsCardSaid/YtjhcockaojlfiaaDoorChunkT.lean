/-
  What the laid tables say.
-/
import Derived.Test.YtjhcockaojlfiaaDoorRows
import Derived.Test.YtjhcockaojlfiaaDoorLaid
import Derived.Test.YtjhcockaojlfiaaDoorChunkE
namespace Go.Proofs.YtjhcockaojlfiaaDoor
set_option linter.unusedSimpArgs false
set_option linter.unusedVariables false
set_option maxRecDepth 20000
open Go
theorem laid_tz {w : World} (h : laidMet Tryd.prog Rows.chunkedFeedsRow.laid w) : TZ w.heap :=
  laid_cell (k := .u8) (N := 64) (e := T_uint8) (t := T_64_uint8) h (List.mem_cons_of_mem _ (List.mem_cons_self ..)) (by kernel_rfl) (by kernel_rfl) Tryd.underlying62 Tryd.underlying5 (by kernel_rfl) (by decide) rfl
end Go.Proofs.YtjhcockaojlfiaaDoor
