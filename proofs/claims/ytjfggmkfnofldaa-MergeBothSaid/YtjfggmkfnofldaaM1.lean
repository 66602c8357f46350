import Derived.Test.YtjfggmkfnofldaaC1
import Derived.Maps.Own
import Derived.Maps.OwnOps
import Derived.Maps.Views
namespace Go.Proofs.Ytjfggmkfnofldaa
open Go.RowKit
set_option linter.unusedVariables false

/-- Block b is a map[int]bool of at most n entries; what is asked of it is S. -/
structure SetIs (w : World) (b n : Nat) (S : Int → Bool) : Prop where
  out : ∃ D : DataW Unit, w.ownsMap Try.prog 3 (plainElem Try.prog 4) b n D ∧ ∀ i, (Lit.int .i64 i).wf = true → D.atKey (.int .i64 i) (.lit (.bool false)) = .lit (.bool (S i))

theorem keyed3 : Go.Maps.Keyed Try.prog 3 := Go.Maps.int_keyed Try.underlying3
theorem zero4 (w : World) : (zeroValue 4).run Try.prog w = .ok (.bool false) w := by kernel_rfl
theorem isMap_of_owns {H : Type} {w : World} {P : Program} {k : TypeId} {R : Value → Option (DataW H × List MemPlace)} {b n : Nat} {D : DataW H} (h : w.ownsMap P k R b n D) : ∃ es, D = .map es := by
  obtain ⟨es, clock, _, _, _, rfl⟩ := h
  exact ⟨_, rfl⟩

theorem SetIs.made (w : World) : SetIs (w.alloc (.map #[] 0)) w.heap.size 0 (fun _ => false) :=
  ⟨.map [], World.ownsMap_made w _ _ _, fun i _ => rfl⟩
theorem SetIs.lookup {w : World} {b n : Nat} {S : Int → Bool} (h : SetIs w b n S) (i : Int) (hi : (Lit.int .i64 i).wf = true) :
    (Instr.lookup 30 (.map (some b)) (.int .i64 i) false).run Try.prog w = .ok (.bool (S i)) w := by
  obtain ⟨D, ho, hD⟩ := h.out
  obtain ⟨v, ps, hrun, hv⟩ := ho.lookup keyed3 Try.underlying30 (zero4 w) (plainElem_bool Try.underlying4 false) (Go.Maps.keyOf_int_mk Try.underlying3 hi)
  rw [hD i hi] at hv
  rw [hrun]
  unfold plainElem at hv
  rw [Try.underlying4] at hv
  cases v <;> simp at hv
  rw [hv.1]
theorem SetIs.kept {w w' : World} {b n : Nat} {S : Int → Bool} (h : SetIs w b n S) {row : Option Nat} (hg : w.grownBy w' row) (hne : some b ≠ row) : SetIs w' b n S := by
  obtain ⟨D, ho, hD⟩ := h.out
  exact ⟨D, ho.kept hg hne, hD⟩
theorem SetIs.below {w w' : World} {b n : Nat} {S : Int → Bool} (h : SetIs w b n S) (hb : Below w.heap.size w w') : SetIs w' b n S :=
  h.kept ⟨hb.os, hb.tape, hb.output, hb.size, fun k hk _ => hb.block k hk⟩ (row := none) (by simp)
theorem SetIs.lt {w : World} {b n : Nat} {S : Int → Bool} (h : SetIs w b n S) : b < w.heap.size := by
  obtain ⟨D, ho, hD⟩ := h.out; exact ho.lt
theorem SetIs.isMap {w : World} {b n : Nat} {S : Int → Bool} (h : SetIs w b n S) : ∃ es clock, w.heap[b]? = some (.map es clock) := by
  obtain ⟨D, ⟨es, clock, hb, _⟩, hD⟩ := h.out; exact ⟨es, clock, hb⟩

/-- What a store leaves. -/
theorem SetIs.put {w' : World} {b n : Nat} {S : Int → Bool} {D : DataW Unit} (hM : ∃ es, D = .map es) (hD : ∀ i, (Lit.int .i64 i).wf = true → D.atKey (.int .i64 i) (.lit (.bool false)) = .lit (.bool (S i)))
    (i : Int) (x : Bool) (ho : w'.ownsMap Try.prog 3 (plainElem Try.prog 4) b (n + 1) (D.put (.int .i64 i) (.lit (.bool x)))) : SetIs w' b (n + 1) (fun j => if j = i then x else S j) := by
  refine ⟨_, ho, fun j hj => ?_⟩
  by_cases e : j = i
  · subst e
    rw [Maps.atKey_put_same hM (by trivial)]
    simp
  · rw [Maps.atKey_put_other (by simpa using e), hD j hj]
    simp [e]
end Go.Proofs.Ytjfggmkfnofldaa
