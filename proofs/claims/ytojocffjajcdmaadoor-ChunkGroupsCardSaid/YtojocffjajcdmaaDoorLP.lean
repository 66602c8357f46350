import Derived.Test.YtojocffjajcdmaaDoorLR
import Derived.Test.YtojocffjajcdmaaDoorLG
import Derived.Test.YtojocffjajcdmaaDoorLH
import Derived.Test.YtojocffjajcdmaaDoorLA
namespace Go.Proofs.YtojocffjajcdmaaDoor
open Go.RowKit Go.Proofs.YtojocffjajcdmaaDoorW.PrintWords Go.Proofs.YtojocffjajcdmaaDoorW.PrintLast Go.Proofs.YtojocffjajcdmaaDoorW.PrintMore PChunkAll
set_option linter.unusedVariables false
set_option linter.unusedSimpArgs false

/-! ### What was written is read back -/
/-! Labels -/
/-! Entries -/
theorem Byt.append {a b : List Int} (ha : Byt a) (hb : Byt b) : Byt (a ++ b) := fun x hx => (List.mem_append.1 hx).elim (ha x) (hb x)
end Go.Proofs.YtojocffjajcdmaaDoor
namespace Go.Proofs.YtojocffjajcdmaaDoor
open Go.RowKit Go.Proofs.YtojocffjajcdmaaDoorW.PrintWords Go.Proofs.YtojocffjajcdmaaDoorW.PrintLast Go.Proofs.YtojocffjajcdmaaDoorW.PrintMore PChunkAll
set_option linter.unusedVariables false
set_option linter.unusedSimpArgs false

/-! ### What was written is read back -/
end Go.Proofs.YtojocffjajcdmaaDoor
namespace Go.Proofs.YtojocffjajcdmaaDoor
open Go.RowKit Go.Proofs.YtojocffjajcdmaaDoorW.PrintWords Go.Proofs.YtojocffjajcdmaaDoorW.PrintLast Go.Proofs.YtojocffjajcdmaaDoorW.PrintMore PChunkAll
set_option linter.unusedVariables false
set_option linter.unusedSimpArgs false

/-! ### Batches read -/
end Go.Proofs.YtojocffjajcdmaaDoor
namespace Go.Proofs.YtojocffjajcdmaaDoor
open Go.RowKit Go.Proofs.YtojocffjajcdmaaDoorW.PrintWords Go.Proofs.YtojocffjajcdmaaDoorW.PrintLast Go.Proofs.YtojocffjajcdmaaDoorW.PrintMore PChunkAll
attribute [local go_sem] max2_int min2_int max_two min_two
set_option linter.unusedVariables false
set_option linter.unusedSimpArgs false

/-! ### GetBatch: a batch read -/
end Go.Proofs.YtojocffjajcdmaaDoor
namespace Go.Proofs.YtojocffjajcdmaaDoor
open Go.RowKit Go.Proofs.YtojocffjajcdmaaDoorW.PrintWords Go.Proofs.YtojocffjajcdmaaDoorW.PrintLast Go.Proofs.YtojocffjajcdmaaDoorW.PrintMore PChunkAll
set_option linter.unusedVariables false
set_option linter.unusedSimpArgs false

/-- Entries whose labels' names an int counts. -/
def SzE (l : List S33) : Prop := ∀ k, k < l.length → SzOk (l.getD k z33).f2

/-! ### PutBatch of the reference -/
end Go.Proofs.YtojocffjajcdmaaDoor
namespace Go.Proofs.YtojocffjajcdmaaDoor
open Go.RowKit Go.Proofs.YtojocffjajcdmaaDoorW.PrintWords Go.Proofs.YtojocffjajcdmaaDoorW.PrintLast Go.Proofs.YtojocffjajcdmaaDoorW.PrintMore PChunkAll
set_option linter.unusedVariables false
set_option linter.unusedSimpArgs false

/-! ### GetBatch of the reference -/
end Go.Proofs.YtojocffjajcdmaaDoor
namespace Go.Proofs.YtojocffjajcdmaaDoor
open Go.RowKit Go.Proofs.YtojocffjajcdmaaDoorW.PrintWords Go.Proofs.YtojocffjajcdmaaDoorW.PrintLast Go.Proofs.YtojocffjajcdmaaDoorW.PrintMore PChunkAll
set_option linter.unusedVariables false
set_option linter.unusedSimpArgs false

/-! ### RecordBatches -/
end Go.Proofs.YtojocffjajcdmaaDoor
