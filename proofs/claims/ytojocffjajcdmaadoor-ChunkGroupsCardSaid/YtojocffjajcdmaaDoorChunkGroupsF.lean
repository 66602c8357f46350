/- The closed facts of ChunkGroups' row, by the kernel. -/
import Derived.Test.YtojocffjajcdmaaDoorRows
import Derived.ProofKit
import Derived.JoinedCond
import Derived.KernelRfl
import GoSem.ClaimSeven
namespace Go.Proofs.YtojocffjajcdmaaDoor
open Go
theorem cgr_named : Tryd.pinned.checked.prog.funcNamed Rows.chunkGroupsRow.func = some 14 := by kernel_rfl
theorem cgr_inst : Tryd.f14.isInstance Tryd.pinned.checked.prog Rows.chunkGroupsRow.origin Rows.chunkGroupsRow.targs := of_decide_eq_true (by kernel_rfl)
theorem cgr_wrap : Tryd.f14.isWrapper Tryd.pinned.checked.prog Rows.chunkGroupsRow.wrapper Rows.chunkGroupsRow.mainSum := by unfold Func.isWrapper; first | (rw [if_pos (by decide +kernel)]; kernel_rfl) | (rw [if_neg (by decide +kernel)]; exact ⟨rfl, rfl⟩)
theorem cgr_facts : joinedFacts Tryd.pinned.checked.prog 14 Tryd.f14 (OpenSpec.ofChange Rows.chunkGroupsSpec).bare Rows.chunkGroupsRow = true := by kernel_rfl
end Go.Proofs.YtojocffjajcdmaaDoor
