/- The closed facts of ChunkTimes' row, by the kernel. -/
import Derived.Test.YtojocffjajcdmaaDoorRows
import Derived.ProofKit
import Derived.JoinedCond
import Derived.KernelRfl
import GoSem.ClaimSeven
namespace Go.Proofs.YtojocffjajcdmaaDoor
open Go
theorem ct_named : Tryd.pinned.checked.prog.funcNamed Rows.chunkTimesRow.func = some 6 := by kernel_rfl
theorem ct_inst : Tryd.f6.isInstance Tryd.pinned.checked.prog Rows.chunkTimesRow.origin Rows.chunkTimesRow.targs := of_decide_eq_true (by kernel_rfl)
theorem ct_wrap : Tryd.f6.isWrapper Tryd.pinned.checked.prog Rows.chunkTimesRow.wrapper Rows.chunkTimesRow.mainSum := by unfold Func.isWrapper; first | (rw [if_pos (by decide +kernel)]; kernel_rfl) | (rw [if_neg (by decide +kernel)]; exact ⟨rfl, rfl⟩)
theorem ct_facts : joinedFacts Tryd.pinned.checked.prog 6 Tryd.f6 (OpenSpec.ofChange Rows.chunkTimesSpec).bare Rows.chunkTimesRow = true := by kernel_rfl
end Go.Proofs.YtojocffjajcdmaaDoor
