/-
  DERIVED. GIVEN WITH THE SEED: THE CARDS: each row of YtojocffjajcdmaaDoorRows.lean that lists a variable, with what it lists TIED to the program's text (the seventh form; the later family's looks); each row that meets fmt, with fmt's text TOLD by the authors' own Lean function (tested against real Go, not proved from fmt's source: count such statements apart). THE CARD IS WHAT COUNTS. Prove the row's statement (the work); the ties are given (YtojocffjajcdmaaDoorTie.lean); close each card by the builder's one call (the guide's Derived/Test/ToyasCard.lean, 'card_holds'). Laid BY PROGRAM, IN A SANDBOX (cutbox-door.mjs). By AI agents, Wed Nov 11 2026. No macro, syntax, notation, axiom, sorry.
-/
import Derived.Test.YtojocffjajcdmaaDoorRows
import GoSem.ClaimSeven
namespace Go.Proofs.YtojocffjajcdmaaDoor
namespace Rows

/-- THE TIED CARD OF 'icehouselaw03.RecordSizes'. -/
def recordSizesCard : Claim7 := { stood := { row := recordSizesRow, standIns := [], harness := (true, "966f1954de8a40f6c8b706870ccb74a6a1949f7358d105c82c1d61f20c05dc41"), looks := false }, kinds := [], alts := [], laidByText := true, laidKinds := [.data, .pinned], laidTests := true, laidLooks := .later }
def RecordSizesCardSaid : Prop := Claim7.holds Tryd.pinned (.plain (OpenSpec.ofChange recordSizesSpec)) recordSizesCard

/-- THE TIED CARD OF 'icehouselaw03.RecordEntries'. -/
def recordEntriesCard : Claim7 := { stood := { row := recordEntriesRow, standIns := [], harness := (true, "966f1954de8a40f6c8b706870ccb74a6a1949f7358d105c82c1d61f20c05dc41"), looks := false }, kinds := [], alts := [], laidByText := true, laidKinds := [.data, .pinned], laidTests := true, laidLooks := .later }
def RecordEntriesCardSaid : Prop := Claim7.holds Tryd.pinned (.plain (OpenSpec.ofChange recordEntriesSpec)) recordEntriesCard

/-- THE TIED CARD OF 'icehouselaw04.ChunkLooks'. -/
def chunkLooksCard : Claim7 := { stood := { row := chunkLooksRow, standIns := [], harness := (true, "966f1954de8a40f6c8b706870ccb74a6a1949f7358d105c82c1d61f20c05dc41"), looks := false }, kinds := [], alts := [], laidByText := true, laidKinds := [.data, .pinned], laidTests := true, laidLooks := .later }
def ChunkLooksCardSaid : Prop := Claim7.holds Tryd.pinned (.plain (OpenSpec.ofChange chunkLooksSpec)) chunkLooksCard

/-- THE TIED CARD OF 'icehouselaw04.ChunkTimes'. -/
def chunkTimesCard : Claim7 := { stood := { row := chunkTimesRow, standIns := [], harness := (true, "966f1954de8a40f6c8b706870ccb74a6a1949f7358d105c82c1d61f20c05dc41"), looks := false }, kinds := [], alts := [], laidByText := true, laidKinds := [.data, .pinned], laidTests := true, laidLooks := .later }
def ChunkTimesCardSaid : Prop := Claim7.holds Tryd.pinned (.plain (OpenSpec.ofChange chunkTimesSpec)) chunkTimesCard

/-- THE TIED CARD OF 'icehouselaw04.ChunkSplits'. -/
def chunkSplitsCard : Claim7 := { stood := { row := chunkSplitsRow, standIns := [], harness := (true, "966f1954de8a40f6c8b706870ccb74a6a1949f7358d105c82c1d61f20c05dc41"), looks := false }, kinds := [], alts := [], laidByText := true, laidKinds := [.data, .pinned], laidTests := true, laidLooks := .later }
def ChunkSplitsCardSaid : Prop := Claim7.holds Tryd.pinned (.plain (OpenSpec.ofChange chunkSplitsSpec)) chunkSplitsCard

/-- THE TIED CARD OF 'icehouselaw03.RecordBatches'. -/
def recordBatchesCard : Claim7 := { stood := { row := recordBatchesRow, standIns := [], harness := (true, "966f1954de8a40f6c8b706870ccb74a6a1949f7358d105c82c1d61f20c05dc41"), looks := false }, kinds := [], alts := [], laidByText := true, laidKinds := [.data, .pinned], laidTests := true, laidLooks := .later }
def RecordBatchesCardSaid : Prop := Claim7.holds Tryd.pinned (.plain (OpenSpec.ofChange recordBatchesSpec)) recordBatchesCard

/-- THE TIED CARD OF 'icehouselaw03.RecordBack'. -/
def recordBackCard : Claim7 := { stood := { row := recordBackRow, standIns := [], harness := (true, "966f1954de8a40f6c8b706870ccb74a6a1949f7358d105c82c1d61f20c05dc41"), looks := false }, kinds := [], alts := [], laidByText := true, laidKinds := [.data, .pinned], laidTests := true, laidLooks := .later }
def RecordBackCardSaid : Prop := Claim7.holds Tryd.pinned (.plain (OpenSpec.ofChange recordBackSpec)) recordBackCard

/-- THE TIED CARD OF 'icehouselaw03.RecordSorts'. -/
def recordSortsCard : Claim7 := { stood := { row := recordSortsRow, standIns := [], harness := (true, "966f1954de8a40f6c8b706870ccb74a6a1949f7358d105c82c1d61f20c05dc41"), looks := false }, kinds := [], alts := [], laidByText := true, laidKinds := [.data, .pinned], laidTests := true, laidLooks := .later }
def RecordSortsCardSaid : Prop := Claim7.holds Tryd.pinned (.plain (OpenSpec.ofChange recordSortsSpec)) recordSortsCard

/-- THE TIED CARD OF 'icehouselaw03.RecordOrdered'. -/
def recordOrderedCard : Claim7 := { stood := { row := recordOrderedRow, standIns := [], harness := (true, "966f1954de8a40f6c8b706870ccb74a6a1949f7358d105c82c1d61f20c05dc41"), looks := false }, kinds := [], alts := [], laidByText := true, laidKinds := [.data, .pinned], laidTests := true, laidLooks := .later }
def RecordOrderedCardSaid : Prop := Claim7.holds Tryd.pinned (.plain (OpenSpec.ofChange recordOrderedSpec)) recordOrderedCard

/-- THE TIED CARD OF 'icehouselaw04.ChunkBytes'. -/
def chunkBytesCard : Claim7 := { stood := { row := chunkBytesRow, standIns := [], harness := (true, "966f1954de8a40f6c8b706870ccb74a6a1949f7358d105c82c1d61f20c05dc41"), looks := false }, kinds := [], alts := [], laidByText := true, laidKinds := [.data, .pinned], laidTests := true, laidLooks := .later }
def ChunkBytesCardSaid : Prop := Claim7.holds Tryd.pinned (.plain (OpenSpec.ofChange chunkBytesSpec)) chunkBytesCard

/-- THE TIED CARD OF 'icehouselaw04.ChunkBack'. -/
def chunkBackCard : Claim7 := { stood := { row := chunkBackRow, standIns := [], harness := (true, "966f1954de8a40f6c8b706870ccb74a6a1949f7358d105c82c1d61f20c05dc41"), looks := false }, kinds := [], alts := [], laidByText := true, laidKinds := [.data, .pinned], laidTests := true, laidLooks := .later }
def ChunkBackCardSaid : Prop := Claim7.holds Tryd.pinned (.plain (OpenSpec.ofChange chunkBackSpec)) chunkBackCard

/-- THE TIED CARD OF 'icehouselaw04.ChunkGroups'. -/
def chunkGroupsCard : Claim7 := { stood := { row := chunkGroupsRow, standIns := [], harness := (true, "966f1954de8a40f6c8b706870ccb74a6a1949f7358d105c82c1d61f20c05dc41"), looks := false }, kinds := [], alts := [], laidByText := true, laidKinds := [.data, .pinned], laidTests := true, laidLooks := .later }
def ChunkGroupsCardSaid : Prop := Claim7.holds Tryd.pinned (.plain (OpenSpec.ofChange chunkGroupsSpec)) chunkGroupsCard

/-- THE TIED CARD OF 'icehouselaw04.ChunkAll'. -/
def chunkAllCard : Claim7 := { stood := { row := chunkAllRow, standIns := [], harness := (true, "966f1954de8a40f6c8b706870ccb74a6a1949f7358d105c82c1d61f20c05dc41"), looks := false }, kinds := [], alts := [], laidByText := true, laidKinds := [.data, .pinned], laidTests := true, laidLooks := .later }
def ChunkAllCardSaid : Prop := Claim7.holds Tryd.pinned (.plain (OpenSpec.ofChange chunkAllSpec)) chunkAllCard

/-- THE TIED CARD OF 'icehouselaw05.PostingsOwn'. -/
def postingsOwnCard : Claim7 := { stood := { row := postingsOwnRow, standIns := [], harness := (true, "966f1954de8a40f6c8b706870ccb74a6a1949f7358d105c82c1d61f20c05dc41"), looks := false }, kinds := [], alts := [], laidByText := true, laidKinds := [.data, .pinned], laidTests := true, laidLooks := .later }
def PostingsOwnCardSaid : Prop := Claim7.holds Tryd.pinned (.plain (OpenSpec.ofChange postingsOwnSpec)) postingsOwnCard

/-- THE TIED CARD OF 'icehouselaw05.PostingsNil'. -/
def postingsNilCard : Claim7 := { stood := { row := postingsNilRow, standIns := [], harness := (true, "966f1954de8a40f6c8b706870ccb74a6a1949f7358d105c82c1d61f20c05dc41"), looks := false }, kinds := [], alts := [], laidByText := true, laidKinds := [.data, .pinned], laidTests := true, laidLooks := .later }
def PostingsNilCardSaid : Prop := Claim7.holds Tryd.pinned (.plain (OpenSpec.ofChange postingsNilSpec)) postingsNilCard

/-- THE SECOND FORM's CARD OF 'icehouselaw03.RecordSizes'. -/
def recordSizesUptoCard : Claim7 := { stood := { row := recordSizesUptoRow, standIns := [], harness := (true, "966f1954de8a40f6c8b706870ccb74a6a1949f7358d105c82c1d61f20c05dc41"), looks := false }, kinds := [], alts := [], laidByText := true, laidKinds := [.data, .pinned], laidTests := true, laidLooks := .later }
def RecordSizesUptoCardSaid : Prop := Claim7.holds Tryd.pinned (.plain (OpenSpec.upto recordSizesSpec)) recordSizesUptoCard

/-- THE SECOND FORM's CARD OF 'icehouselaw03.RecordEntries'. -/
def recordEntriesUptoCard : Claim7 := { stood := { row := recordEntriesUptoRow, standIns := [], harness := (true, "966f1954de8a40f6c8b706870ccb74a6a1949f7358d105c82c1d61f20c05dc41"), looks := false }, kinds := [], alts := [], laidByText := true, laidKinds := [.data, .pinned], laidTests := true, laidLooks := .later }
def RecordEntriesUptoCardSaid : Prop := Claim7.holds Tryd.pinned (.plain (OpenSpec.upto recordEntriesSpec)) recordEntriesUptoCard

/-- THE SECOND FORM's CARD OF 'icehouselaw04.ChunkLooks'. -/
def chunkLooksUptoCard : Claim7 := { stood := { row := chunkLooksUptoRow, standIns := [], harness := (true, "966f1954de8a40f6c8b706870ccb74a6a1949f7358d105c82c1d61f20c05dc41"), looks := false }, kinds := [], alts := [], laidByText := true, laidKinds := [.data, .pinned], laidTests := true, laidLooks := .later }
def ChunkLooksUptoCardSaid : Prop := Claim7.holds Tryd.pinned (.plain (OpenSpec.upto chunkLooksSpec)) chunkLooksUptoCard

/-- THE SECOND FORM's CARD OF 'icehouselaw04.ChunkTimes'. -/
def chunkTimesUptoCard : Claim7 := { stood := { row := chunkTimesUptoRow, standIns := [], harness := (true, "966f1954de8a40f6c8b706870ccb74a6a1949f7358d105c82c1d61f20c05dc41"), looks := false }, kinds := [], alts := [], laidByText := true, laidKinds := [.data, .pinned], laidTests := true, laidLooks := .later }
def ChunkTimesUptoCardSaid : Prop := Claim7.holds Tryd.pinned (.plain (OpenSpec.upto chunkTimesSpec)) chunkTimesUptoCard

/-- THE SECOND FORM's CARD OF 'icehouselaw04.ChunkSplits'. -/
def chunkSplitsUptoCard : Claim7 := { stood := { row := chunkSplitsUptoRow, standIns := [], harness := (true, "966f1954de8a40f6c8b706870ccb74a6a1949f7358d105c82c1d61f20c05dc41"), looks := false }, kinds := [], alts := [], laidByText := true, laidKinds := [.data, .pinned], laidTests := true, laidLooks := .later }
def ChunkSplitsUptoCardSaid : Prop := Claim7.holds Tryd.pinned (.plain (OpenSpec.upto chunkSplitsSpec)) chunkSplitsUptoCard

/-- THE SECOND FORM's CARD OF 'icehouselaw03.RecordBatches'. -/
def recordBatchesUptoCard : Claim7 := { stood := { row := recordBatchesUptoRow, standIns := [], harness := (true, "966f1954de8a40f6c8b706870ccb74a6a1949f7358d105c82c1d61f20c05dc41"), looks := false }, kinds := [], alts := [], laidByText := true, laidKinds := [.data, .pinned], laidTests := true, laidLooks := .later }
def RecordBatchesUptoCardSaid : Prop := Claim7.holds Tryd.pinned (.plain (OpenSpec.upto recordBatchesSpec)) recordBatchesUptoCard

/-- THE SECOND FORM's CARD OF 'icehouselaw03.RecordBack'. -/
def recordBackUptoCard : Claim7 := { stood := { row := recordBackUptoRow, standIns := [], harness := (true, "966f1954de8a40f6c8b706870ccb74a6a1949f7358d105c82c1d61f20c05dc41"), looks := false }, kinds := [], alts := [], laidByText := true, laidKinds := [.data, .pinned], laidTests := true, laidLooks := .later }
def RecordBackUptoCardSaid : Prop := Claim7.holds Tryd.pinned (.plain (OpenSpec.upto recordBackSpec)) recordBackUptoCard

/-- THE SECOND FORM's CARD OF 'icehouselaw03.RecordSorts'. -/
def recordSortsUptoCard : Claim7 := { stood := { row := recordSortsUptoRow, standIns := [], harness := (true, "966f1954de8a40f6c8b706870ccb74a6a1949f7358d105c82c1d61f20c05dc41"), looks := false }, kinds := [], alts := [], laidByText := true, laidKinds := [.data, .pinned], laidTests := true, laidLooks := .later }
def RecordSortsUptoCardSaid : Prop := Claim7.holds Tryd.pinned (.plain (OpenSpec.upto recordSortsSpec)) recordSortsUptoCard

/-- THE SECOND FORM's CARD OF 'icehouselaw03.RecordOrdered'. -/
def recordOrderedUptoCard : Claim7 := { stood := { row := recordOrderedUptoRow, standIns := [], harness := (true, "966f1954de8a40f6c8b706870ccb74a6a1949f7358d105c82c1d61f20c05dc41"), looks := false }, kinds := [], alts := [], laidByText := true, laidKinds := [.data, .pinned], laidTests := true, laidLooks := .later }
def RecordOrderedUptoCardSaid : Prop := Claim7.holds Tryd.pinned (.plain (OpenSpec.upto recordOrderedSpec)) recordOrderedUptoCard

/-- THE SECOND FORM's CARD OF 'icehouselaw04.ChunkBytes'. -/
def chunkBytesUptoCard : Claim7 := { stood := { row := chunkBytesUptoRow, standIns := [], harness := (true, "966f1954de8a40f6c8b706870ccb74a6a1949f7358d105c82c1d61f20c05dc41"), looks := false }, kinds := [], alts := [], laidByText := true, laidKinds := [.data, .pinned], laidTests := true, laidLooks := .later }
def ChunkBytesUptoCardSaid : Prop := Claim7.holds Tryd.pinned (.plain (OpenSpec.upto chunkBytesSpec)) chunkBytesUptoCard

/-- THE SECOND FORM's CARD OF 'icehouselaw04.ChunkBack'. -/
def chunkBackUptoCard : Claim7 := { stood := { row := chunkBackUptoRow, standIns := [], harness := (true, "966f1954de8a40f6c8b706870ccb74a6a1949f7358d105c82c1d61f20c05dc41"), looks := false }, kinds := [], alts := [], laidByText := true, laidKinds := [.data, .pinned], laidTests := true, laidLooks := .later }
def ChunkBackUptoCardSaid : Prop := Claim7.holds Tryd.pinned (.plain (OpenSpec.upto chunkBackSpec)) chunkBackUptoCard

/-- THE SECOND FORM's CARD OF 'icehouselaw04.ChunkGroups'. -/
def chunkGroupsUptoCard : Claim7 := { stood := { row := chunkGroupsUptoRow, standIns := [], harness := (true, "966f1954de8a40f6c8b706870ccb74a6a1949f7358d105c82c1d61f20c05dc41"), looks := false }, kinds := [], alts := [], laidByText := true, laidKinds := [.data, .pinned], laidTests := true, laidLooks := .later }
def ChunkGroupsUptoCardSaid : Prop := Claim7.holds Tryd.pinned (.plain (OpenSpec.upto chunkGroupsSpec)) chunkGroupsUptoCard

/-- THE SECOND FORM's CARD OF 'icehouselaw04.ChunkAll'. -/
def chunkAllUptoCard : Claim7 := { stood := { row := chunkAllUptoRow, standIns := [], harness := (true, "966f1954de8a40f6c8b706870ccb74a6a1949f7358d105c82c1d61f20c05dc41"), looks := false }, kinds := [], alts := [], laidByText := true, laidKinds := [.data, .pinned], laidTests := true, laidLooks := .later }
def ChunkAllUptoCardSaid : Prop := Claim7.holds Tryd.pinned (.plain (OpenSpec.upto chunkAllSpec)) chunkAllUptoCard

/-- THE SECOND FORM's CARD OF 'icehouselaw05.PostingsOwn'. -/
def postingsOwnUptoCard : Claim7 := { stood := { row := postingsOwnUptoRow, standIns := [], harness := (true, "966f1954de8a40f6c8b706870ccb74a6a1949f7358d105c82c1d61f20c05dc41"), looks := false }, kinds := [], alts := [], laidByText := true, laidKinds := [.data, .pinned], laidTests := true, laidLooks := .later }
def PostingsOwnUptoCardSaid : Prop := Claim7.holds Tryd.pinned (.plain (OpenSpec.upto postingsOwnSpec)) postingsOwnUptoCard

/-- THE SECOND FORM's CARD OF 'icehouselaw05.PostingsNil'. -/
def postingsNilUptoCard : Claim7 := { stood := { row := postingsNilUptoRow, standIns := [], harness := (true, "966f1954de8a40f6c8b706870ccb74a6a1949f7358d105c82c1d61f20c05dc41"), looks := false }, kinds := [], alts := [], laidByText := true, laidKinds := [.data, .pinned], laidTests := true, laidLooks := .later }
def PostingsNilUptoCardSaid : Prop := Claim7.holds Tryd.pinned (.plain (OpenSpec.upto postingsNilSpec)) postingsNilUptoCard
end Rows
end Go.Proofs.YtojocffjajcdmaaDoor
