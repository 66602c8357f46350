/- The closed facts of RecordSorts' row, by the kernel. -/
import Derived.Test.YtojocffjajcdmaaDoorRows
import Derived.ProofKit
import Derived.JoinedCond
import Derived.KernelRfl
import GoSem.ClaimSeven
namespace Go.Proofs.YtojocffjajcdmaaDoor
open Go
theorem rso_named : Tryd.pinned.checked.prog.funcNamed Rows.recordSortsRow.func = some 10 := by kernel_rfl
theorem rso_inst : Tryd.f10.isInstance Tryd.pinned.checked.prog Rows.recordSortsRow.origin Rows.recordSortsRow.targs := of_decide_eq_true (by kernel_rfl)
theorem rso_wrap : Tryd.f10.isWrapper Tryd.pinned.checked.prog Rows.recordSortsRow.wrapper Rows.recordSortsRow.mainSum := by unfold Func.isWrapper; first | (rw [if_pos (by decide +kernel)]; kernel_rfl) | (rw [if_neg (by decide +kernel)]; exact ⟨rfl, rfl⟩)
theorem rso_facts : joinedFacts Tryd.pinned.checked.prog 10 Tryd.f10 (OpenSpec.ofChange Rows.recordSortsSpec).bare Rows.recordSortsRow = true := by kernel_rfl
end Go.Proofs.YtojocffjajcdmaaDoor
