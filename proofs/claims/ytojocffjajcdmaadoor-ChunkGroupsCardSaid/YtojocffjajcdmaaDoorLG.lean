import Derived.Test.YtojocffjajcdmaaDoorLR
import Derived.BigQuiet
import Derived.Deep.QuietTactic
import Derived.Test.YtojocffjajcdmaaDoorLB
namespace Go.Proofs.YtojocffjajcdmaaDoor
open Go.RowKit Go.Proofs.YtojocffjajcdmaaDoorW.PrintWords Go.Proofs.YtojocffjajcdmaaDoorW.PrintLast Go.Proofs.YtojocffjajcdmaaDoorW.PrintMore PChunkAll
set_option linter.unusedVariables false
set_option linter.unusedSimpArgs false

def g1 (bs : List Int) : Int × List Int × Int := numS bs 0
def g2 (bs : List Int) : Int × List Int × Int := numS (g1 bs).2.1 (g1 bs).2.2
def g3 (bs : List Int) : ByteArray × List Int × Int := textS (g2 bs).2.1 (g2 bs).2.2
def g4 (bs : List Int) : List S112 × Int := readL (bytesOf (g3 bs).1)
def g5 (bs : List Int) : ByteArray × List Int × Int := textS (g3 bs).2.1 (g3 bs).2.2
end Go.Proofs.YtojocffjajcdmaaDoor
namespace Go.Proofs.YtojocffjajcdmaaDoor
open Go.RowKit Go.Proofs.YtojocffjajcdmaaDoorW.PrintWords Go.Proofs.YtojocffjajcdmaaDoorW.PrintLast Go.Proofs.YtojocffjajcdmaaDoorW.PrintMore PChunkAll
set_option linter.unusedVariables false
set_option linter.unusedSimpArgs false

end Go.Proofs.YtojocffjajcdmaaDoor
namespace Go.Proofs.YtojocffjajcdmaaDoor
open Go.RowKit Go.Proofs.YtojocffjajcdmaaDoorW.PrintWords Go.Proofs.YtojocffjajcdmaaDoorW.PrintLast Go.Proofs.YtojocffjajcdmaaDoorW.PrintMore PChunkAll
set_option linter.unusedVariables false
set_option linter.unusedSimpArgs false

/-! ### The reference's decoder: a block of three cells: all bytes, the place, the fault -/
def RefAt (w : World) (g : Nat) (bs : List Int) (er : Int) : Prop :=
  ∃ A c all, ∃ p : Nat, w.heap[g]? = some (.cells #[.slice A all.length c, .int .i64 (p : Int), .int .i64 er] 162 (0, 0)) ∧ p ≤ all.length ∧ all.drop p = bs ∧ all.length ≤ c ∧ Kd.C KB w A all.length all ∧ (∀ ad, A = some ad → ad.block < g) ∧ Byt all ∧ all.length ≤ 140737488355328
/-- .. with the bytes and the place by name. -/
def RefIn (w : World) (g : Nat) (A : Option Addr) (c : Nat) (all : List Int) (p : Nat) (er : Int) : Prop :=
  w.heap[g]? = some (.cells #[.slice A all.length c, .int .i64 (p : Int), .int .i64 er] 162 (0, 0)) ∧ p ≤ all.length ∧ all.length ≤ c ∧ Kd.C KB w A all.length all ∧ (∀ ad, A = some ad → ad.block < g) ∧ Byt all ∧ all.length ≤ 140737488355328
theorem RefIn.at {w : World} {g : Nat} {A : Option Addr} {c : Nat} {all : List Int} {p : Nat} {er : Int} (h : RefIn w g A c all p er) : RefAt w g (all.drop p) er := by
  obtain ⟨h1, h2, h4, h5, h6, h7, h8⟩ := h
  exact ⟨A, c, all, p, h1, h2, rfl, h4, h5, h6, h7, h8⟩
theorem RefAt.lt {w : World} {g : Nat} {bs : List Int} {er : Int} (h : RefAt w g bs er) : g < w.heap.size := by
  obtain ⟨A, c, all, p, h1, _⟩ := h
  exact blk_lt h1
theorem RefAt.below {w w' : World} {g : Nat} {bs : List Int} {er : Int} (h : RefAt w g bs er) (hb : Below w.heap.size w w') : RefAt w' g bs er := by
  obtain ⟨A, c, all, p, h1, h2, h3, h4, h5, h6⟩ := h
  exact ⟨A, c, all, p, blk_below h1 hb, h2, h3, h4, Kd.C_below h5 hb, h6⟩
theorem RefAt.low {w w' : World} {g : Nat} {bs : List Int} {er : Int} (h : RefAt w g bs er) (hb : Below (g + 1) w w') : RefAt w' g bs er := by
  obtain ⟨A, c, all, p, h1, h2, h3, h4, h5, h6, h7⟩ := h
  exact ⟨A, c, all, p, (hb.block g (by omega)).trans h1, h2, h3, h4, C_old h5 h6 (fun k hk => hb.block k (by omega)), h6, h7⟩
theorem RefAt.grown {w w' : World} {g e : Nat} {bs : List Int} {er : Int} (h : RefAt w g bs er) (hg : w.grownBy w' (some e)) (he : g < e) : RefAt w' g bs er := by
  obtain ⟨A, c, all, p, h1, h2, h3, h4, h5, h6, h7⟩ := h
  have hlt := blk_lt h1
  have hk : ∀ k, k ≤ g → w'.heap[k]? = w.heap[k]? := fun k hk => hg.block k (by omega) (by intro x; injection x with x; omega)
  exact ⟨A, c, all, p, (hk g (Nat.le_refl _)).trans h1, h2, h3, h4, C_old h5 h6 (fun k h => hk k (by omega)), h6, h7⟩
theorem RefAt.set {w : World} {g E i : Nat} {bs : List Int} {er : Int} {u : Value} (h : RefAt w g bs er) (hE : g < E) : RefAt (w.setCell ⟨E, i, none⟩ u) g bs er := h.grown (set_grown (World.grownBy.refl w (some E)) i u) hE
end Go.Proofs.YtojocffjajcdmaaDoor
namespace Go.Proofs.YtojocffjajcdmaaDoor
open Go.RowKit Go.Proofs.YtojocffjajcdmaaDoorW.PrintWords Go.Proofs.YtojocffjajcdmaaDoorW.PrintLast Go.Proofs.YtojocffjajcdmaaDoorW.PrintMore PChunkAll
set_option linter.unusedVariables false
set_option linter.unusedSimpArgs false

theorem RefIn.drewN {w : World} {g : Nat} {A : Option Addr} {c : Nat} {all : List Int} {p : Nat} {er : Int} (h : RefIn w g A c all p er) (n : Nat) : RefIn (w.drewN n) g A c all p er := by
  obtain ⟨h1, h2, h4, h5, h6⟩ := h
  exact ⟨blk_drewN h1 n, h2, h4, Kd.C_below h5 (pw_below_drewN (Below.refl _ _) n), h6⟩
end Go.Proofs.YtojocffjajcdmaaDoor
namespace Go.Proofs.YtojocffjajcdmaaDoor
open Go.RowKit Go.Proofs.YtojocffjajcdmaaDoorW.PrintWords Go.Proofs.YtojocffjajcdmaaDoorW.PrintLast Go.Proofs.YtojocffjajcdmaaDoorW.PrintMore PChunkAll
set_option linter.unusedVariables false
set_option linter.unusedSimpArgs false

end Go.Proofs.YtojocffjajcdmaaDoor
namespace Go.Proofs.YtojocffjajcdmaaDoor
open Go.RowKit Go.Proofs.YtojocffjajcdmaaDoorW.PrintWords Go.Proofs.YtojocffjajcdmaaDoorW.PrintLast Go.Proofs.YtojocffjajcdmaaDoorW.PrintMore PChunkAll
set_option linter.unusedVariables false
set_option linter.unusedSimpArgs false

end Go.Proofs.YtojocffjajcdmaaDoor
namespace Go.Proofs.YtojocffjajcdmaaDoor
open Go.RowKit Go.Proofs.YtojocffjajcdmaaDoorW.PrintWords Go.Proofs.YtojocffjajcdmaaDoorW.PrintLast Go.Proofs.YtojocffjajcdmaaDoorW.PrintMore PChunkAll
set_option linter.unusedVariables false
set_option linter.unusedSimpArgs false

end Go.Proofs.YtojocffjajcdmaaDoor
namespace Go.Proofs.YtojocffjajcdmaaDoor
open Go.RowKit Go.Proofs.YtojocffjajcdmaaDoorW.PrintWords Go.Proofs.YtojocffjajcdmaaDoorW.PrintLast Go.Proofs.YtojocffjajcdmaaDoorW.PrintMore PChunkAll
set_option linter.unusedVariables false
set_option linter.unusedSimpArgs false

end Go.Proofs.YtojocffjajcdmaaDoor
namespace Go.Proofs.YtojocffjajcdmaaDoor
open Go.RowKit Go.Proofs.YtojocffjajcdmaaDoorW.PrintWords Go.Proofs.YtojocffjajcdmaaDoorW.PrintLast Go.Proofs.YtojocffjajcdmaaDoorW.PrintMore PChunkAll
set_option linter.unusedVariables false
set_option linter.unusedSimpArgs false

end Go.Proofs.YtojocffjajcdmaaDoor
namespace Go.Proofs.YtojocffjajcdmaaDoor
open Go.RowKit Go.Proofs.YtojocffjajcdmaaDoorW.PrintWords Go.Proofs.YtojocffjajcdmaaDoorW.PrintLast Go.Proofs.YtojocffjajcdmaaDoorW.PrintMore PChunkAll
set_option linter.unusedVariables false
set_option linter.unusedSimpArgs false

/-! ### Stays: what was lent is as it was, and the two bytes behind it -/
end Go.Proofs.YtojocffjajcdmaaDoor
namespace Go.Proofs.YtojocffjajcdmaaDoor
open Go.RowKit Go.Proofs.YtojocffjajcdmaaDoorW.PrintWords Go.Proofs.YtojocffjajcdmaaDoorW.PrintLast Go.Proofs.YtojocffjajcdmaaDoorW.PrintMore PChunkAll
set_option linter.unusedVariables false
set_option linter.unusedSimpArgs false
end Go.Proofs.YtojocffjajcdmaaDoor
