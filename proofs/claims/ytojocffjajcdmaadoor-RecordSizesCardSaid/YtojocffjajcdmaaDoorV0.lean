import Derived.Test.YtojocffjajcdmaaDoorProg
import Derived.Shelf.Unicode.ValidAny
import Derived.Below
namespace Go.Proofs.YtojocffjajcdmaaDoor
open Go.Shelf Go.RowKit
def laysValid_ren : Go.Shelf.Ren := ⟨fun | 196 => 172 | 259 => 194 | n => n, fun | 9 => 9 | 4 => 4 | 3 => 3 | 5 => 5 | 12 => 12 | 119 => 234 | 0 => 0 | 46 => 200 | 139 => 237 | 138 => 236 | 53 => 199 | n => n, fun | 3 => 0 | 4 => 1 | n => n⟩
theorem laysValid : Lays.n196 Tryd.prog laysValid_ren :=
  { mixed := by kernel_rfl,
    f196 := Tryd.func172.trans (congrArg some (by kernel_rfl)),
    f259 := Tryd.func194.trans (congrArg some (by kernel_rfl)),
    t0 := Tryd.underlying0,
    a0 := Tryd.isAgg0,
    z0 := Tryd.sizeOf0,
    v0 := Tryd.zeroValue0,
    t3 := Tryd.underlying3,
    a3 := Tryd.isAgg3,
    z3 := Tryd.sizeOf3,
    v3 := Tryd.zeroValue3,
    t4 := Tryd.underlying4,
    a4 := Tryd.isAgg4,
    z4 := Tryd.sizeOf4,
    v4 := Tryd.zeroValue4,
    t5 := Tryd.underlying5,
    a5 := Tryd.isAgg5,
    z5 := Tryd.sizeOf5,
    v5 := Tryd.zeroValue5,
    t9 := Tryd.underlying9,
    a9 := Tryd.isAgg9,
    z9 := Tryd.sizeOf9,
    v9 := Tryd.zeroValue9,
    t12 := Tryd.underlying12,
    a12 := Tryd.isAgg12,
    z12 := Tryd.sizeOf12,
    v12 := Tryd.zeroValue12,
    t46 := Tryd.underlying200,
    a46 := Tryd.isAgg200,
    z46 := Tryd.sizeOf200,
    v46 := Tryd.zeroValue200,
    t53 := Tryd.underlying199,
    a53 := Tryd.isAgg199,
    z53 := Tryd.sizeOf199,
    v53 := Tryd.zeroValue199,
    t119 := Tryd.underlying234,
    a119 := Tryd.isAgg234,
    z119 := Tryd.sizeOf234,
    t138 := Tryd.underlying236,
    a138 := Tryd.isAgg236,
    z138 := Tryd.sizeOf236,
    v138 := Tryd.zeroValue236,
    t139 := Tryd.underlying237,
    a139 := Tryd.isAgg237,
    z139 := Tryd.sizeOf237,
    v139 := Tryd.zeroValue237,
    g3 := by kernel_rfl,
    g4 := by kernel_rfl }

/-- The two tables, as Go lays them. -/
def Tabs (w : World) : Prop := Lib.Utf8Tabs (laysValid_ren.g 3) (laysValid_ren.g 4) w
theorem valid_string (s : ByteArray) (w : World) (hs : s.size ≤ 9223372036854775807) (hT : Tabs w) :
    Calls Tryd.prog 172 #[.string s] w fun e w' => e = .returned (.bool (Lib.validD s.data.toList)) ∧ Below w.heap.size w w' :=
  Any.utf8_ValidString laysValid s w hs hT
end Go.Proofs.YtojocffjajcdmaaDoor
