/-
  The symbolic run of laws.FnAuditDetects ends in true, where the second number drawn from the input is 0, and where the input is big.
-/
import Derived.Test.YteodickkbkdnaaaGreatTables
import Derived.KernelRfl

namespace Go.Sy
open Go
theorem krB : isB (evF dsG (mmR false (.i 3 0)) (ftG D0) 60 3 [.x 0] (Hp.new 7) 0) = true := by kernel_rfl
end Go.Sy

namespace Go.Sy
open Go
def D2 : Rg := ⟨0, 255, 0, 255⟩
theorem krC : isB (evF dsG (mmR true (.y 3 0 1 0)) (ftG D2) 60 3 [.x 0] (Hp.new 7) 0) = true := by kernel_rfl
end Go.Sy
