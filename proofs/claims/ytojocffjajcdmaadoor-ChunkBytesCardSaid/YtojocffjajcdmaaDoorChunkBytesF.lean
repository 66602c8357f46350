/- The closed facts of ChunkBytes' row, by the kernel. -/
import Derived.Test.YtojocffjajcdmaaDoorRows
import Derived.ProofKit
import Derived.JoinedCond
import Derived.KernelRfl
import GoSem.ClaimSeven
namespace Go.Proofs.YtojocffjajcdmaaDoor
open Go
theorem cby_named : Tryd.pinned.checked.prog.funcNamed Rows.chunkBytesRow.func = some 12 := by kernel_rfl
theorem cby_inst : Tryd.f12.isInstance Tryd.pinned.checked.prog Rows.chunkBytesRow.origin Rows.chunkBytesRow.targs := of_decide_eq_true (by kernel_rfl)
theorem cby_wrap : Tryd.f12.isWrapper Tryd.pinned.checked.prog Rows.chunkBytesRow.wrapper Rows.chunkBytesRow.mainSum := by unfold Func.isWrapper; first | (rw [if_pos (by decide +kernel)]; kernel_rfl) | (rw [if_neg (by decide +kernel)]; exact ⟨rfl, rfl⟩)
theorem cby_facts : joinedFacts Tryd.pinned.checked.prog 12 Tryd.f12 (OpenSpec.ofChange Rows.chunkBytesSpec).bare Rows.chunkBytesRow = true := by kernel_rfl
end Go.Proofs.YtojocffjajcdmaaDoor
