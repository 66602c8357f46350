import Derived.Test.YtjfggmkfnofldaaProg
import Derived.WalkKit
import Derived.WalkSpells
import Derived.WalkLawsBesides
import Derived.KernelRfl
import Derived.Lib.Hide
import Derived.BigQuiet
import Derived.Deep.QuietTactic
import Derived.Deep.RegionHeld3
import Derived.Deep.DeepFit
namespace Go.Proofs.Ytjfggmkfnofldaa
open Go.RowKit

/-- Block b holds just these cells. -/
structure Blk (w : World) (b : Nat) (cs : Array Value) (t : Nat) : Prop where
  out : w.heap[b]? = some (.cells cs t (0, 0))

theorem Blk.new (w : World) (cs : Array Value) (t b : Nat) (hb : b = w.heap.size) : Blk (w.alloc (.cells cs t)) b cs t := by
  subst hb; exact ⟨by show (w.heap.push _)[_]? = _; simp⟩
theorem Blk.lt {w : World} {b t : Nat} {cs : Array Value} (h : Blk w b cs t) : b < w.heap.size :=
  (Array.getElem?_eq_some_iff.1 h.out).1
theorem Blk.below {w w' : World} {B b t : Nat} {cs : Array Value} (h : Blk w b cs t) (hb : Below B w w') (hB : b < B) : Blk w' b cs t :=
  ⟨(hb.block b hB).trans h.out⟩
theorem Blk.alloc {w : World} {b t : Nat} {cs : Array Value} (h : Blk w b cs t) (o : Obj) : Blk (w.alloc o) b cs t :=
  ⟨(Below.heap_alloc w o b h.lt).trans h.out⟩
theorem Blk.drew {w : World} {b t : Nat} {cs : Array Value} (h : Blk w b cs t) : Blk w.drew b cs t := ⟨h.out⟩
theorem Blk.drewN {w : World} {b t : Nat} {cs : Array Value} (h : Blk w b cs t) (n : Nat) : Blk (w.drewN n) b cs t := ⟨h.out⟩
theorem Blk.cell {w : World} {b t : Nat} {cs : Array Value} (h : Blk w b cs t) (i : Nat) (v : Value) (hv : cs[i]? = some v) : w.cell? ⟨b, i, none⟩ = some v := by
  unfold World.cell?; rw [h.out]; simpa using hv
theorem Blk.frozen {w : World} {b t : Nat} {cs : Array Value} (h : Blk w b cs t) (i : Nat) : w.frozen? ⟨b, i, none⟩ = false := by
  unfold World.frozen?; rw [h.out]; simp
theorem Blk.set {w : World} {b t : Nat} {cs : Array Value} (h : Blk w b cs t) (i : Nat) (v : Value) : Blk (w.setCell ⟨b, i, none⟩ v) b (cs.setIfInBounds i v) t := by
  constructor
  show (w.heap.modify b _)[b]? = _
  simp [Array.getElem?_modify, h.out]
theorem Blk.far {w : World} {b t : Nat} {cs : Array Value} (h : Blk w b cs t) (a : Addr) (v : Value) (hne : b ≠ a.block) : Blk (w.setCell a v) b cs t :=
  ⟨(Below.heap_setCell w a v b hne).trans h.out⟩

theorem wp_gen {P : Program} {c : Code} {Q : Exit → Act → World → Prop} {a : Act} {W : World} (S : World → Prop) (h : S W)
    (k : ∀ W', S W' → Code.wp P c Q a W') : Code.wp P c Q a W := k W h
theorem ret_of {v v' : Value} (h : v = v') : Ending.returned v = Ending.returned v' := by rw [h]
end Go.Proofs.Ytjfggmkfnofldaa
