/-
  The closed cells of the row are what the program forces.
-/
import Derived.Test.YteodickkbkdnaaaGreatRows
import Derived.ProofKit
import Derived.JoinedOf
import Derived.Test.YteodickkbkdnaaaGreatCellA
import Derived.Test.YteodickkbkdnaaaGreatCellB
import Derived.Test.YteodickkbkdnaaaGreatCellC
import Derived.Test.YteodickkbkdnaaaGreatCellD

namespace Go.Proofs.YteodickkbkdnaaaGreat
theorem and_tt {a b : Bool} (ha : a = true) (hb : b = true) : (a && b) = true := by rw [ha, hb]; rfl
theorem closed : joinedFacts Tryz.prog 3 Tryz.f3 Rows.fnAuditDetectsSpec Rows.fnAuditDetectsRow = true := by
  unfold joinedFacts
  refine and_tt ?_ (by kernel_rfl)
  refine and_tt ?_ (by kernel_rfl)
  refine and_tt ?_ (by kernel_rfl)
  refine and_tt ?_ (by kernel_rfl)
  refine and_tt ?_ (by kernel_rfl)
  refine and_tt ?_ (by kernel_rfl)
  refine and_tt ?_ (by kernel_rfl)
  refine and_tt ?_ (by kernel_rfl)
  refine and_tt ?_ (by kernel_rfl)
  refine and_tt ?_ (by kernel_rfl)
  refine and_tt ?_ (by kernel_rfl)
  refine and_tt ?_ (by kernel_rfl)
  refine and_tt ?_ (by kernel_rfl)
  refine and_tt ?_ (by kernel_rfl)
  refine and_tt ?_ (by kernel_rfl)
  refine and_tt ?_ (by kernel_rfl)
  refine and_tt ?_ (by kernel_rfl)
  refine and_tt ?_ (by kernel_rfl)
  refine and_tt ?_ (by kernel_rfl)
  refine and_tt ?_ cellD
  refine and_tt ?_ cellC
  refine and_tt ?_ cellB
  refine and_tt ?_ cellA
  kernel_rfl
end Go.Proofs.YteodickkbkdnaaaGreat
