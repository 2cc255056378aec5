/-
  A closed cell of the row.
-/
import Derived.Test.YteodickkbkdnaaaGreatRows
import Derived.KernelRfl

namespace Go.Proofs.YteodickkbkdnaaaGreat
theorem cellD : (Rows.fnAuditDetectsRow.named == Tryz.prog.varsNamed 3) = true := by kernel_rfl
end Go.Proofs.YteodickkbkdnaaaGreat
