/-
  A closed cell of the row.
-/
import Derived.Test.YteodickkbkdnaaaGreatRows
import Derived.KernelRfl

namespace Go.Proofs.YteodickkbkdnaaaGreat
theorem cellB : (Rows.fnAuditDetectsRow.unfollowed == Tryz.prog.unfollowed 3) = true := by kernel_rfl
end Go.Proofs.YteodickkbkdnaaaGreat
