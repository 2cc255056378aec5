/-
  The symbolic run of laws.FnAuditDetects ends in true, where the second number drawn from the input is 1 to 255.
-/
import Derived.Test.YteodickkbkdnaaaGreatTables
import Derived.KernelRfl

namespace Go.Sy
open Go
theorem krA : isB (evF dsG (mmR false (.y 3 0 1 0)) (ftG D1) 60 3 [.x 0] (Hp.new 7) 0) = true := by kernel_rfl
end Go.Sy
