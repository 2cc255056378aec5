/-
  The row of laws.FnAuditDetects holds: for every input it returns true, and the input reads behind the call as it read before; no condition.
-/
import Derived.Test.YteodickkbkdnaaaGreatLifted
import Derived.Test.YteodickkbkdnaaaGreatClosed

namespace Go.Proofs.YteodickkbkdnaaaGreat
theorem fnAuditDetects_holds : Rows.FnAuditDetectsSaid :=
  OpenClaim.holds_of_wide 3 Tryz.f3 rfl rfl rfl rfl rfl rfl rfl ⟨rfl, rfl, rfl, rfl, rfl⟩ rfl rfl rfl rfl rfl (by kernel_rfl) Tryz.func3 closed
    (of_decide_eq_true (by kernel_rfl)) (by unfold Func.isWrapper; first | (rw [if_pos (by decide +kernel)]; kernel_rfl) | (rw [if_neg (by decide +kernel)]; exact ⟨rfl, rfl⟩))
    (fun os started H enc _ => f_lifted os started H enc)
end Go.Proofs.YteodickkbkdnaaaGreat
