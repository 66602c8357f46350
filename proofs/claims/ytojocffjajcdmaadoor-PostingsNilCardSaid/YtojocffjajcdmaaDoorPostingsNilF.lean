/- The closed facts of PostingsNil' row, by the kernel. -/
import Derived.Test.YtojocffjajcdmaaDoorRows
import Derived.ProofKit
import Derived.JoinedCond
import Derived.KernelRfl
import GoSem.ClaimSeven
namespace Go.Proofs.YtojocffjajcdmaaDoor
open Go
theorem pn_named : Tryd.pinned.checked.prog.funcNamed Rows.postingsNilRow.func = some 17 := by kernel_rfl
theorem pn_inst : Tryd.f17.isInstance Tryd.pinned.checked.prog Rows.postingsNilRow.origin Rows.postingsNilRow.targs := of_decide_eq_true (by kernel_rfl)
theorem pn_wrap : Tryd.f17.isWrapper Tryd.pinned.checked.prog Rows.postingsNilRow.wrapper Rows.postingsNilRow.mainSum := by unfold Func.isWrapper; first | (rw [if_pos (by decide +kernel)]; kernel_rfl) | (rw [if_neg (by decide +kernel)]; exact ⟨rfl, rfl⟩)
theorem pn_facts : joinedFacts Tryd.pinned.checked.prog 17 Tryd.f17 (OpenSpec.ofChange Rows.postingsNilSpec).bare Rows.postingsNilRow = true := by kernel_rfl
end Go.Proofs.YtojocffjajcdmaaDoor
