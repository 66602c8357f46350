/- The closed facts of ChunkLooks' row, by the kernel. -/
import Derived.Test.YtojocffjajcdmaaDoorRows
import Derived.ProofKit
import Derived.JoinedCond
import Derived.KernelRfl
import GoSem.ClaimSeven
namespace Go.Proofs.YtojocffjajcdmaaDoor
open Go
theorem cl_named : Tryd.pinned.checked.prog.funcNamed Rows.chunkLooksRow.func = some 5 := by kernel_rfl
theorem cl_inst : Tryd.f5.isInstance Tryd.pinned.checked.prog Rows.chunkLooksRow.origin Rows.chunkLooksRow.targs := of_decide_eq_true (by kernel_rfl)
theorem cl_wrap : Tryd.f5.isWrapper Tryd.pinned.checked.prog Rows.chunkLooksRow.wrapper Rows.chunkLooksRow.mainSum := by unfold Func.isWrapper; first | (rw [if_pos (by decide +kernel)]; kernel_rfl) | (rw [if_neg (by decide +kernel)]; exact ⟨rfl, rfl⟩)
theorem cl_facts : joinedFacts Tryd.pinned.checked.prog 5 Tryd.f5 (OpenSpec.ofChange Rows.chunkLooksSpec).bare Rows.chunkLooksRow = true := by kernel_rfl
end Go.Proofs.YtojocffjajcdmaaDoor
