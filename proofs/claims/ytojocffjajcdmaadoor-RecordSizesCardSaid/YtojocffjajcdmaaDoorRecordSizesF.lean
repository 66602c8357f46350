/- The closed facts of RecordSizes' row, by the kernel. -/
import Derived.Test.YtojocffjajcdmaaDoorRows
import Derived.ProofKit
import Derived.JoinedCond
import Derived.KernelRfl
import GoSem.ClaimSeven
namespace Go.Proofs.YtojocffjajcdmaaDoor
open Go
theorem rs_named : Tryd.pinned.checked.prog.funcNamed Rows.recordSizesRow.func = some 3 := by kernel_rfl
theorem rs_inst : Tryd.f3.isInstance Tryd.pinned.checked.prog Rows.recordSizesRow.origin Rows.recordSizesRow.targs := of_decide_eq_true (by kernel_rfl)
theorem rs_wrap : Tryd.f3.isWrapper Tryd.pinned.checked.prog Rows.recordSizesRow.wrapper Rows.recordSizesRow.mainSum := by unfold Func.isWrapper; first | (rw [if_pos (by decide +kernel)]; kernel_rfl) | (rw [if_neg (by decide +kernel)]; exact ⟨rfl, rfl⟩)
theorem rs_facts : joinedFacts Tryd.pinned.checked.prog 3 Tryd.f3 (OpenSpec.ofChange Rows.recordSizesSpec).bare Rows.recordSizesRow = true := by kernel_rfl
end Go.Proofs.YtojocffjajcdmaaDoor
