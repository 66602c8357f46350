/- The closed facts of RecordBatches' row, by the kernel. -/
import Derived.Test.YtojocffjajcdmaaDoorRows
import Derived.ProofKit
import Derived.JoinedCond
import Derived.KernelRfl
import GoSem.ClaimSeven
namespace Go.Proofs.YtojocffjajcdmaaDoor
open Go
theorem rb_named : Tryd.pinned.checked.prog.funcNamed Rows.recordBatchesRow.func = some 8 := by kernel_rfl
theorem rb_inst : Tryd.f8.isInstance Tryd.pinned.checked.prog Rows.recordBatchesRow.origin Rows.recordBatchesRow.targs := of_decide_eq_true (by kernel_rfl)
theorem rb_wrap : Tryd.f8.isWrapper Tryd.pinned.checked.prog Rows.recordBatchesRow.wrapper Rows.recordBatchesRow.mainSum := by unfold Func.isWrapper; first | (rw [if_pos (by decide +kernel)]; kernel_rfl) | (rw [if_neg (by decide +kernel)]; exact ⟨rfl, rfl⟩)
theorem rb_facts : joinedFacts Tryd.pinned.checked.prog 8 Tryd.f8 (OpenSpec.ofChange Rows.recordBatchesSpec).bare Rows.recordBatchesRow = true := by kernel_rfl
end Go.Proofs.YtojocffjajcdmaaDoor
