import Derived.Test.YtojocffjajcdmaaDoorLB
import Derived.Lib.SliceRun
namespace Go.Proofs.YtojocffjajcdmaaDoor
open Go.RowKit Go.Proofs.YtojocffjajcdmaaDoorW.PrintWords Go.Proofs.YtojocffjajcdmaaDoorW.PrintLast Go.Proofs.YtojocffjajcdmaaDoorW.PrintMore PChunkAll
set_option linter.unusedVariables false
set_option linter.unusedSimpArgs false

/-! ### The decoder: a block of three cells -/
/-- What is left is bs, er the fault so far. -/
def DecAt (w : World) (g : Nat) (bs : List Int) (er : Int) : Prop :=
  ∃ A c, w.heap[g]? = some (.cells #[.slice A bs.length c, .int .i64 er, .bool true] 186 (0, 0)) ∧ bs.length ≤ c ∧ Kd.C KB w A bs.length bs ∧ (∀ ad, A = some ad → ad.block < g) ∧ Byt bs
theorem DecAt.lt {w : World} {g : Nat} {bs : List Int} {er : Int} (h : DecAt w g bs er) : g < w.heap.size := by
  obtain ⟨A, c, h1, _⟩ := h
  exact blk_lt h1
theorem DecAt.below {w w' : World} {g : Nat} {bs : List Int} {er : Int} (h : DecAt w g bs er) (hb : Below w.heap.size w w') : DecAt w' g bs er := by
  obtain ⟨A, c, h1, h2, h3, h4, h5⟩ := h
  exact ⟨A, c, blk_below h1 hb, h2, Kd.C_below h3 hb, h4, h5⟩
/-- What is read of a row below g stays, where of the old blocks only those from g on turn. -/
theorem C_old {w w' : World} {A : Option Addr} {n g : Nat} {bs : List Int} (h : Kd.C KB w A n bs) (hA : ∀ ad, A = some ad → ad.block < g) (hw : ∀ k, k < g → w'.heap[k]? = w.heap[k]?) : Kd.C KB w' A n bs := by
  refine ⟨h.1, h.2.1, fun hn => ?_⟩
  obtain ⟨ad, e, hc⟩ := h.2.2 hn
  refine ⟨ad, e, fun j p hj => ?_⟩
  obtain ⟨c, hl, hK, hcell⟩ := hc j p hj
  refine ⟨c, hl, hK, fun i u hu => ?_⟩
  have h1 := hcell i u hu
  have hbk : (ad.add (j * KB.sz + i)).block = ad.block := by unfold Addr.add; split <;> rfl
  have hw1 := hw ad.block (hA ad e)
  unfold World.cell? at h1 ⊢
  rw [hbk] at h1 ⊢
  rw [hw1]
  exact h1
/-- A block behind the decoder's turns. -/
theorem DecAt.grown {w w' : World} {g e : Nat} {bs : List Int} {er : Int} (h : DecAt w g bs er) (hg : w.grownBy w' (some e)) (he : g < e) : DecAt w' g bs er := by
  obtain ⟨A, c, h1, h2, h3, h4, h5⟩ := h
  have hlt := blk_lt h1
  have hk : ∀ k, k ≤ g → w'.heap[k]? = w.heap[k]? := fun k hk => hg.block k (by omega) (by intro x; injection x with x; omega)
  exact ⟨A, c, (hk g (Nat.le_refl _)).trans h1, h2, C_old h3 h4 (fun k h => hk k (by omega)), h4, h5⟩
/-- What a decoder's end says. -/
def doneG (bs : List Int) (er : Int) : Int := if er ≠ 0 then er else if 0 < bs.length then 21 else 0
end Go.Proofs.YtojocffjajcdmaaDoor
namespace Go.Proofs.YtojocffjajcdmaaDoor
open Go.RowKit Go.Proofs.YtojocffjajcdmaaDoorW.PrintWords Go.Proofs.YtojocffjajcdmaaDoorW.PrintLast Go.Proofs.YtojocffjajcdmaaDoorW.PrintMore PChunkAll
set_option linter.unusedVariables false
set_option linter.unusedSimpArgs false

def numS (bs : List Int) (er : Int) : Int × List Int × Int := if er ≠ 0 then (0, bs, er) else ((numG bs).1, bs.drop (numG bs).2.1, (numG bs).2.2)

theorem set_grown {w W : World} {g : Nat} (h : w.grownBy W (some g)) (i : Nat) (v : Value) : w.grownBy (W.setCell ⟨g, i, none⟩ v) (some g) :=
  ⟨h.os, h.tape, h.output, by have := h.size; simpa [World.setCell] using this, fun k hk hr => (Below.heap_setCell W _ v k (fun e => hr (by rw [e]))).trans (h.block k hk hr)⟩
end Go.Proofs.YtojocffjajcdmaaDoor
namespace Go.Proofs.YtojocffjajcdmaaDoor
open Go.RowKit Go.Proofs.YtojocffjajcdmaaDoorW.PrintWords Go.Proofs.YtojocffjajcdmaaDoorW.PrintLast Go.Proofs.YtojocffjajcdmaaDoorW.PrintMore PChunkAll
set_option linter.unusedVariables false
set_option linter.unusedSimpArgs false

def noStr : ByteArray := ⟨#[]⟩
/-- A text read: the text, what is left, the fault. -/
def textS (bs : List Int) (er : Int) : ByteArray × List Int × Int :=
  if (numS bs er).2.2 ≠ 0 then (noStr, bs, (numS bs er).2.2)
  else if 65536 < (numS bs er).1 then (noStr, bs, 21)
  else if ((numS bs er).2.1.length : Int) < (numS bs er).1 then (noStr, bs, 20)
  else (strOfNums ((numS bs er).2.1.take (numS bs er).1.toNat), (numS bs er).2.1.drop (numS bs er).1.toNat, 0)
end Go.Proofs.YtojocffjajcdmaaDoor
namespace Go.Proofs.YtojocffjajcdmaaDoor
open Go.RowKit Go.Proofs.YtojocffjajcdmaaDoorW.PrintWords Go.Proofs.YtojocffjajcdmaaDoorW.PrintLast Go.Proofs.YtojocffjajcdmaaDoorW.PrintMore PChunkAll
attribute [local go_sem] max2_int min2_int max_two min_two
set_option linter.unusedVariables false
set_option linter.unusedSimpArgs false

/-- k labels read. -/
def labsS (bs : List Int) (er : Int) : Nat → List S112 × List Int × Int
  | 0 => ([], bs, er)
  | k + 1 =>
    ((labsS bs er k).1 ++ [⟨(textS (labsS bs er k).2.1 (labsS bs er k).2.2).1, (textS (textS (labsS bs er k).2.1 (labsS bs er k).2.2).2.1 (textS (labsS bs er k).2.1 (labsS bs er k).2.2).2.2).1⟩],
      (textS (textS (labsS bs er k).2.1 (labsS bs er k).2.2).2.1 (textS (labsS bs er k).2.1 (labsS bs er k).2.2).2.2).2)
def cnt (n : Int) : Nat := (min n 17).toNat
def readS (bs : List Int) : List S112 × List Int × Int := labsS (numS bs 0).2.1 (numS bs 0).2.2 (cnt (numS bs 0).1)
def readL (bs : List Int) : List S112 × Int := if doneG (readS bs).2.1 (readS bs).2.2 ≠ 0 ∨ rightL (readS bs).1 = false then ([], 21) else ((readS bs).1, 0)
theorem DecAt.low {w w' : World} {g : Nat} {bs : List Int} {er : Int} (h : DecAt w g bs er) (hb : Below (g + 1) w w') : DecAt w' g bs er := by
  obtain ⟨A, c, h1, h2, h3, h4, h5⟩ := h
  exact ⟨A, c, (hb.block g (by omega)).trans h1, h2, C_old h3 h4 (fun k hk => hb.block k (by omega)), h4, h5⟩
end Go.Proofs.YtojocffjajcdmaaDoor
namespace Go.Proofs.YtojocffjajcdmaaDoor
open Go.RowKit Go.Proofs.YtojocffjajcdmaaDoorW.PrintWords Go.Proofs.YtojocffjajcdmaaDoorW.PrintLast Go.Proofs.YtojocffjajcdmaaDoorW.PrintMore PChunkAll
set_option linter.unusedVariables false
set_option linter.unusedSimpArgs false

theorem DecAt.set {w : World} {g E i : Nat} {bs : List Int} {er : Int} {u : Value} (h : DecAt w g bs er) (hE : g < E) : DecAt (w.setCell ⟨E, i, none⟩ u) g bs er := h.grown (set_grown (World.grownBy.refl w (some E)) i u) hE
end Go.Proofs.YtojocffjajcdmaaDoor
