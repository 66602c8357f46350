import Derived.Test.YtjfggmkfnofldaaG2
namespace Go.Proofs.Ytjfggmkfnofldaa
open Go.RowKit
set_option linter.unusedVariables false

def RTurnRel (w : World) (es : List Ent) (v4 v3 : Value) (wr : World) : Prop :=
  ∃ k : Nat, v4 = .int .i64 ((es.length : Int) - 1 - k) ∧ k ≤ es.length ∧ wr.ownsRow w.heap.size 34 4 v3 k (ecells (es.reverse.take k)) ∧ Below w.heap.size w wr
def RTurnPost (w : World) (es : List Ent) (r : Ending) (w' : World) : Prop :=
  ∃ v, r = .returned v ∧ w'.ownsRow w.heap.size 34 4 v es.length (ecells es.reverse) ∧ Below w.heap.size w w'

set_option maxHeartbeats 1000000 in
theorem rturn22 (A : Option Addr) (c : Nat) (es : List Ent) (w : World) (hr : RowCells w A (ecells es)) (hs : es.length * 56 ≤ 140737488355328) :
    Calls Try.prog 22 #[.slice A es.length c] w (RTurnPost w es) := by
  obtain ⟨i0, hi0, hz0, hz1, hz2⟩ := info_parts info34
  go_enter Try.func22, Try.ntmps22
  go_wp2
  go_loopw [4, 3] (fun v4 v3 wr => RTurnRel w es v4 v3 wr) (fun v4 _ _ => (intOf v4 + 1).toNat)
  case atStart => exact ⟨0, by go_num, Nat.zero_le _, World.ownsRow_nil _ _ _ _, Below.refl _ _⟩
  case round =>
    obtain ⟨k, rfl, hk, ho, hb⟩ := hrel
    obtain ⟨Ao, co, rfl⟩ := own_sl ho
    by_cases hlt : k < es.length
    · have hj : (es.length : Int) - 1 - k = ((es.length - 1 - k : Nat) : Int) := by omega
      obtain ⟨b, o, rfl, hc⟩ := hr (by rw [ecells_length]; omega)
      obtain ⟨p0, p1, p2, p3⟩ := (entCells_of (fun j u hu => keepc hb (hc j u hu)) (es.length - 1 - k) (by omega))
      have HE : Hid (es.reverse.take (k + 1) = es.reverse.take k ++ [es[es.length - 1 - k]]) := Lib.hid (by
        rw [List.take_succ_eq_append_getElem (by simpa using hlt), List.getElem_reverse])
      have HL : Hid ((es.reverse.take k).length = k) := Lib.hid (by rw [List.length_take, List.length_reverse]; omega)
      have HJ : Hid (es.length - 1 - k < es.length ∧ (es.length : Int) - 1 - k = ((es.length - 1 - k : Nat) : Int)) := Lib.hid ⟨by omega, hj⟩
      clear hc hr
      rw [hj]
      have hi1 : ((es.length - 1 - k : Nat) : Int) < (es.length : Int) := by omega
      have HO := Lib.hid ho; clear ho
      generalize es[es.length - 1 - k] = ex at *
      generalize es.length - 1 - k = j at *
      clear hj
      go_wp2_with (at_builtin; go_must (refine wpList_append_own _ rfl _ _ 24 rfl w.heap.size 34 i0 _ 4 56 Try.underlying24 hi0 hz0 hz1 hz2 rfl (by decide) _ k (ecells (es.reverse.take k)) rfl (HO.out.alloc _) ⟨wr.heap.size, 0, none⟩ 1 1 [.int .i64 ex.s, .int .i64 ex.t, .slice ex.A ex.n ex.c, .string ex.x] rfl rfl (news_at _ #[.int .i64 ex.s, .int .i64 ex.t, .slice ex.A ex.n ex.c, .string ex.x] 34 _ rfl) (by simp [Value.oneCell']) (by unfold maxLen; omega) (by omega) (by have := hb.size; simp; omega) ?_); intro v9 w9 hown9 hgrow9 _)
      go_roundw
      case rel =>
        refine ⟨k + 1, by have := HJ.out; go_num, by omega, ?_, ?_⟩
        · have e : ecells (es.reverse.take k ++ [ex]) = ecells (es.reverse.take k) ++ [.int .i64 ex.s, .int .i64 ex.t, .slice ex.A ex.n ex.c, .string ex.x] := by simp [ecells]
          rw [HE.out, e]
          exact hown9
        · exact (hb.alloc hb.size _).grown hgrow9 (by have := hb.size; simp only [World.size_alloc]; omega) (fun q hq => (HO.out.lt q hq).1)
      case measure => have := HJ.out; simp [intOf] <;> omega
    · obtain rfl : k = es.length := by omega
      have hlt2 : ¬ ((0 : Int) ≤ (es.length : Int) - 1 - es.length) := by omega
      rw [List.take_of_length_le (by simp)] at ho
      have HO := Lib.hid ho; clear ho
      go_wp2
      go_ret
      exact ⟨_, rfl, HO.out, hb⟩
end Go.Proofs.Ytjfggmkfnofldaa
