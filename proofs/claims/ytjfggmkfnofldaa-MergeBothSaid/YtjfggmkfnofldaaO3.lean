import Derived.Test.YtjfggmkfnofldaaO1
import Derived.ChangeSlices
namespace Go.Proofs.Ytjfggmkfnofldaa
open Go.ChangeShapes Go.WideShapes Go.ChangeAt Go.RowKit
set_option linter.unusedVariables false

section
variable {H : Type} {enc : TypeId × Value → H} {w : World} {held : Bool}
/-- A list of numbers read. -/
theorem open_ilist {n : Nat} {v : Value} {x : DataW H × List MemPlace} (h : DataW.trod enc Try.prog w 0 (fun _ => true) held n 37 [v] = some x) :
    ∃ (A : Option Addr) (c : Nat) (ts : List Int), v = .slice A ts.length c ∧ RowCells w A (ts.map (Value.int .i64)) ∧ (∀ t ∈ ts, (Lit.int .i64 t).wf = true) ∧ (A = none → c = 0) ∧ ts.length ≤ c ∧ ts.length ≤ 9223372036854775807 := by
  rcases open_ints Try.underlying37 Try.underlying3 cells3 h with ⟨hcs, hx⟩ | ⟨a, len, cap, zs, hcs, _, hl, hm, hlen, _, hcell, hwf⟩
  · injection hcs with hcs
    subst hcs
    exact ⟨none, 0, [], rfl, fun hp => by simp at hp, (fun t h => by cases h), (fun _ => rfl), Nat.le_refl _, by simp⟩
  · injection hcs with hcs
    subst hcs
    simp only [if_true] at hlen
    have hz : (zs.take len).length = len := by rw [List.length_take]; omega
    refine ⟨some a, cap, zs.take len, by rw [hz], fun hp => ?_, (fun t ht => hwf t (List.mem_of_mem_take ht)), (fun e => by cases e), by rw [hz]; exact hl, by rw [hz]; unfold maxLen at hm; omega⟩
    rw [List.length_map, hz] at hp
    have k0 := hcell 0 (by omega)
    have hsp := spot_none (a := a) (by rw [show a.add 0 = a from rfl] at k0; exact k0)
    refine ⟨a.block, a.off, by rw [← hsp], fun j u hu => ?_⟩
    have hj : j < len := by
      have := (List.getElem?_eq_some_iff.1 hu).1
      rw [List.length_map, hz] at this; exact this
    have k := hcell j (by omega)
    rw [hsp, addr_add] at k
    rw [List.getElem?_map, List.getElem?_take, if_pos hj, List.getElem?_eq_getElem (by omega)] at hu
    simp at hu
    rw [k]
    simp [List.getD_eq_getElem?_getD, List.getElem?_eq_getElem (show j < zs.length by omega), hu]
end
end Go.Proofs.Ytjfggmkfnofldaa
