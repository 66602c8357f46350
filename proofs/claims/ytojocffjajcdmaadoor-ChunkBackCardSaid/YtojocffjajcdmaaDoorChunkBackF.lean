/- The closed facts of ChunkBack' row, by the kernel. -/
import Derived.Test.YtojocffjajcdmaaDoorRows
import Derived.ProofKit
import Derived.JoinedCond
import Derived.KernelRfl
import GoSem.ClaimSeven
namespace Go.Proofs.YtojocffjajcdmaaDoor
open Go
theorem cbk_named : Tryd.pinned.checked.prog.funcNamed Rows.chunkBackRow.func = some 13 := by kernel_rfl
theorem cbk_inst : Tryd.f13.isInstance Tryd.pinned.checked.prog Rows.chunkBackRow.origin Rows.chunkBackRow.targs := of_decide_eq_true (by kernel_rfl)
theorem cbk_wrap : Tryd.f13.isWrapper Tryd.pinned.checked.prog Rows.chunkBackRow.wrapper Rows.chunkBackRow.mainSum := by unfold Func.isWrapper; first | (rw [if_pos (by decide +kernel)]; kernel_rfl) | (rw [if_neg (by decide +kernel)]; exact ⟨rfl, rfl⟩)
theorem cbk_facts : joinedFacts Tryd.pinned.checked.prog 13 Tryd.f13 (OpenSpec.ofChange Rows.chunkBackSpec).bare Rows.chunkBackRow = true := by kernel_rfl
end Go.Proofs.YtojocffjajcdmaaDoor
