/-
  A closed cell of the row.
-/
import Derived.Test.YteodickkbkdnaaaGreatRows
import Derived.KernelRfl

namespace Go.Proofs.YteodickkbkdnaaaGreat
theorem cellA : (Rows.fnAuditDetectsRow.inPlace == Tryz.prog.inPlace 3) = true := by kernel_rfl
end Go.Proofs.YteodickkbkdnaaaGreat
