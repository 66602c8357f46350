/- The closed facts of every card of this seat, by the kernel. -/
import Derived.Test.YtojocffjajcdmaaDoorRows
import Derived.ProofKit
import Derived.KernelRfl
import GoSem.ClaimSeven
namespace Go.Proofs.YtojocffjajcdmaaDoor
open Go
theorem seat_main : Tryd.pinned.checked.prog.mainIs = some (true, "966f1954de8a40f6c8b706870ccb74a6a1949f7358d105c82c1d61f20c05dc41".toList) := by kernel_rfl
theorem seat_looks : false = Tryd.pinned.checked.prog.looks [] := by kernel_rfl
theorem stand22 : Tryd.prog.wantsStandIn 22 = false := by kernel_rfl
end Go.Proofs.YtojocffjajcdmaaDoor
