/- The closed facts of RecordEntries' row, by the kernel. -/
import Derived.Test.YtojocffjajcdmaaDoorRows
import Derived.ProofKit
import Derived.JoinedCond
import Derived.KernelRfl
import GoSem.ClaimSeven
namespace Go.Proofs.YtojocffjajcdmaaDoor
open Go
theorem re_named : Tryd.pinned.checked.prog.funcNamed Rows.recordEntriesRow.func = some 4 := by kernel_rfl
theorem re_inst : Tryd.f4.isInstance Tryd.pinned.checked.prog Rows.recordEntriesRow.origin Rows.recordEntriesRow.targs := of_decide_eq_true (by kernel_rfl)
theorem re_wrap : Tryd.f4.isWrapper Tryd.pinned.checked.prog Rows.recordEntriesRow.wrapper Rows.recordEntriesRow.mainSum := by unfold Func.isWrapper; first | (rw [if_pos (by decide +kernel)]; kernel_rfl) | (rw [if_neg (by decide +kernel)]; exact ⟨rfl, rfl⟩)
theorem re_facts : joinedFacts Tryd.pinned.checked.prog 4 Tryd.f4 (OpenSpec.ofChange Rows.recordEntriesSpec).bare Rows.recordEntriesRow = true := by kernel_rfl
end Go.Proofs.YtojocffjajcdmaaDoor
