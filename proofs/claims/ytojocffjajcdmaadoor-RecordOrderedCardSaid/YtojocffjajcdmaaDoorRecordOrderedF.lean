/- The closed facts of RecordOrdered' row, by the kernel. -/
import Derived.Test.YtojocffjajcdmaaDoorRows
import Derived.ProofKit
import Derived.JoinedCond
import Derived.KernelRfl
import GoSem.ClaimSeven
namespace Go.Proofs.YtojocffjajcdmaaDoor
open Go
theorem rod_named : Tryd.pinned.checked.prog.funcNamed Rows.recordOrderedRow.func = some 11 := by kernel_rfl
theorem rod_inst : Tryd.f11.isInstance Tryd.pinned.checked.prog Rows.recordOrderedRow.origin Rows.recordOrderedRow.targs := of_decide_eq_true (by kernel_rfl)
theorem rod_wrap : Tryd.f11.isWrapper Tryd.pinned.checked.prog Rows.recordOrderedRow.wrapper Rows.recordOrderedRow.mainSum := by unfold Func.isWrapper; first | (rw [if_pos (by decide +kernel)]; kernel_rfl) | (rw [if_neg (by decide +kernel)]; exact ⟨rfl, rfl⟩)
theorem rod_facts : joinedFacts Tryd.pinned.checked.prog 11 Tryd.f11 (OpenSpec.ofChange Rows.recordOrderedSpec).bare Rows.recordOrderedRow = true := by kernel_rfl
end Go.Proofs.YtojocffjajcdmaaDoor
