/-
  A closed cell of the row.
-/
import Derived.Test.YteodickkbkdnaaaGreatRows
import Derived.KernelRfl

namespace Go.Proofs.YteodickkbkdnaaaGreat
theorem cellC : (Rows.fnAuditDetectsRow.recurses == Tryz.prog.recurses 3) = true := by kernel_rfl
end Go.Proofs.YteodickkbkdnaaaGreat
