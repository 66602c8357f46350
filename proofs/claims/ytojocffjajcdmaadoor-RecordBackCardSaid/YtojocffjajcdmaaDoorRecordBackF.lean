/- The closed facts of RecordBack' row, by the kernel. -/
import Derived.Test.YtojocffjajcdmaaDoorRows
import Derived.ProofKit
import Derived.JoinedCond
import Derived.KernelRfl
import GoSem.ClaimSeven
namespace Go.Proofs.YtojocffjajcdmaaDoor
open Go
theorem rk_named : Tryd.pinned.checked.prog.funcNamed Rows.recordBackRow.func = some 9 := by kernel_rfl
theorem rk_inst : Tryd.f9.isInstance Tryd.pinned.checked.prog Rows.recordBackRow.origin Rows.recordBackRow.targs := of_decide_eq_true (by kernel_rfl)
theorem rk_wrap : Tryd.f9.isWrapper Tryd.pinned.checked.prog Rows.recordBackRow.wrapper Rows.recordBackRow.mainSum := by unfold Func.isWrapper; first | (rw [if_pos (by decide +kernel)]; kernel_rfl) | (rw [if_neg (by decide +kernel)]; exact ⟨rfl, rfl⟩)
theorem rk_facts : joinedFacts Tryd.pinned.checked.prog 9 Tryd.f9 (OpenSpec.ofChange Rows.recordBackSpec).bare Rows.recordBackRow = true := by kernel_rfl
end Go.Proofs.YtojocffjajcdmaaDoor
