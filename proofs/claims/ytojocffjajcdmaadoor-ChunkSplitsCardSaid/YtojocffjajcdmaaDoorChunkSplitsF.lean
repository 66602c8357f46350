/- The closed facts of ChunkSplits' row, by the kernel. -/
import Derived.Test.YtojocffjajcdmaaDoorRows
import Derived.ProofKit
import Derived.JoinedCond
import Derived.KernelRfl
import GoSem.ClaimSeven
namespace Go.Proofs.YtojocffjajcdmaaDoor
open Go
theorem cs_named : Tryd.pinned.checked.prog.funcNamed Rows.chunkSplitsRow.func = some 7 := by kernel_rfl
theorem cs_inst : Tryd.f7.isInstance Tryd.pinned.checked.prog Rows.chunkSplitsRow.origin Rows.chunkSplitsRow.targs := of_decide_eq_true (by kernel_rfl)
theorem cs_wrap : Tryd.f7.isWrapper Tryd.pinned.checked.prog Rows.chunkSplitsRow.wrapper Rows.chunkSplitsRow.mainSum := by unfold Func.isWrapper; first | (rw [if_pos (by decide +kernel)]; kernel_rfl) | (rw [if_neg (by decide +kernel)]; exact ⟨rfl, rfl⟩)
theorem cs_facts : joinedFacts Tryd.pinned.checked.prog 7 Tryd.f7 (OpenSpec.ofChange Rows.chunkSplitsSpec).bare Rows.chunkSplitsRow = true := by kernel_rfl
end Go.Proofs.YtojocffjajcdmaaDoor
