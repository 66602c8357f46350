import Derived.Test.YtojocffjajcdmaaDoorLG
import Derived.Deep.RegionHeld3
import Derived.Test.YtojocffjajcdmaaDoorLA
namespace Go.Proofs.YtojocffjajcdmaaDoor
open Go.RowKit Go.Proofs.YtojocffjajcdmaaDoorW.PrintWords Go.Proofs.YtojocffjajcdmaaDoorW.PrintLast Go.Proofs.YtojocffjajcdmaaDoorW.PrintMore PChunkAll
set_option linter.unusedVariables false
set_option linter.unusedSimpArgs false

set_option maxHeartbeats 1000000 in
/-- The reference's Right of an entry. -/
theorem rrightE_any (x : S33) (A : Option Addr) (c : Nat) (w : World) (hr : Kd.C k112 w A x.f2.length x.f2) (hsz : SzOk x.f2) : Calls Tryd.prog 30 #[entA x A c] w (BoolBelow (rightE x) w) := by
  have hb0 : Below w.heap.size w (w.alloc (.cells (entC x A c) 33)) := below_alloc (Below.refl _ _) _
  have HRL := Lib.hid (rright_any A c x.f2 _ (Kd.C_alloc hr (.cells (entC x A c) 33)) hsz)
  have c3 : (w.alloc (.cells (entC x A c) 33)).cell? ⟨w.heap.size, 3, none⟩ = some (.string x.f3) := by rw [blk_cell (heap_alloc_new w _)]; rfl
  have HE : Hid (rightE x = ((decide (1 ≤ x.f0) && (decide (x.f0 < 1099511627776) && (decide (0 ≤ x.f1) && decide (x.f1 < 1099511627776)))) && (rightL x.f2 && decide (x.f3.size ≤ 1024)))) := Lib.hid rfl
  clear hsz hr
  by_cases h1 : 1 ≤ x.f0
  · have e1 : decide (1 ≤ x.f0) = true := decide_eq_true h1
    by_cases h2 : x.f0 < 1099511627776
    · have e2 : decide (x.f0 < 1099511627776) = true := decide_eq_true h2
      by_cases h3 : 0 ≤ x.f1
      · have e3 : decide (0 ≤ x.f1) = true := decide_eq_true h3
        by_cases h4 : x.f1 < 1099511627776
        · have e4 : decide (x.f1 < 1099511627776) = true := decide_eq_true h4
          cases h5 : rightL x.f2 with
          | true =>
            rw [h5] at HRL
            by_cases h6 : x.f3.size ≤ 1024
            · have e6 : decide ((x.f3.size : Int) ≤ 1024) = true := decide_eq_true (by omega)
              have HF : Hid (rightE x = true) := Lib.hid (by rw [HE.out, e1, e2, e3, e4, h5, decide_eq_true h6]; rfl)
              clear h5 HE
              go_enter Tryd.func30, Tryd.ntmps30
              go_wp2_with (go_at_call 96; refine (HRL.out).mono ?_; rintro e w2 ⟨rfl, hb⟩; have hc := pw_cell_below hb c3)
              go_ret
              exact ⟨by rw [HF.out]; rfl, below_then hb0 hb0.size hb⟩
            · have e6 : decide ((x.f3.size : Int) ≤ 1024) = false := decide_eq_false (by omega)
              have HF : Hid (rightE x = false) := Lib.hid (by rw [HE.out, decide_eq_false h6]; simp)
              clear h5 HE
              go_enter Tryd.func30, Tryd.ntmps30
              go_wp2_with (go_at_call 96; refine (HRL.out).mono ?_; rintro e w2 ⟨rfl, hb⟩; have hc := pw_cell_below hb c3)
              go_ret
              exact ⟨by rw [HF.out]; rfl, below_then hb0 hb0.size hb⟩
          | false =>
            rw [h5] at HRL
            have HF : Hid (rightE x = false) := Lib.hid (by rw [HE.out, h5]; simp)
            clear h5 HE
            go_enter Tryd.func30, Tryd.ntmps30
            go_wp2_with (go_at_call 96; refine (HRL.out).mono ?_; rintro e w2 ⟨rfl, hb⟩)
            go_ret
            exact ⟨by rw [HF.out]; rfl, below_then hb0 hb0.size hb⟩
        · have e4 : decide (x.f1 < 1099511627776) = false := decide_eq_false h4
          have HF : Hid (rightE x = false) := Lib.hid (by rw [HE.out, e4]; simp)
          clear HE
          go_enter Tryd.func30, Tryd.ntmps30
          go_wp2
          go_ret
          exact ⟨by rw [HF.out]; rfl, hb0⟩
      · have e3 : decide (0 ≤ x.f1) = false := decide_eq_false h3
        have HF : Hid (rightE x = false) := Lib.hid (by rw [HE.out, e3]; simp)
        clear HE
        go_enter Tryd.func30, Tryd.ntmps30
        go_wp2
        go_ret
        exact ⟨by rw [HF.out]; rfl, hb0⟩
    · have e2 : decide (x.f0 < 1099511627776) = false := decide_eq_false h2
      have HF : Hid (rightE x = false) := Lib.hid (by rw [HE.out, e2]; simp)
      clear HE
      go_enter Tryd.func30, Tryd.ntmps30
      go_wp2
      go_ret
      exact ⟨by rw [HF.out]; rfl, hb0⟩
  · have e1 : decide (1 ≤ x.f0) = false := decide_eq_false h1
    have HF : Hid (rightE x = false) := Lib.hid (by rw [HE.out, e1]; simp)
    clear HE
    go_enter Tryd.func30, Tryd.ntmps30
    go_wp2
    go_ret
    exact ⟨by rw [HF.out]; rfl, hb0⟩
end Go.Proofs.YtojocffjajcdmaaDoor
namespace Go.Proofs.YtojocffjajcdmaaDoor
open Go.RowKit Go.Proofs.YtojocffjajcdmaaDoorW.PrintWords Go.Proofs.YtojocffjajcdmaaDoorW.PrintLast Go.Proofs.YtojocffjajcdmaaDoorW.PrintMore PChunkAll
set_option linter.unusedVariables false
set_option linter.unusedSimpArgs false

end Go.Proofs.YtojocffjajcdmaaDoor
namespace Go.Proofs.YtojocffjajcdmaaDoor
open Go.RowKit Go.Proofs.YtojocffjajcdmaaDoorW.PrintWords Go.Proofs.YtojocffjajcdmaaDoorW.PrintLast Go.Proofs.YtojocffjajcdmaaDoorW.PrintMore PChunkAll
set_option linter.unusedVariables false
set_option linter.unusedSimpArgs false

end Go.Proofs.YtojocffjajcdmaaDoor
namespace Go.Proofs.YtojocffjajcdmaaDoor
open Go.RowKit Go.Proofs.YtojocffjajcdmaaDoorW.PrintWords Go.Proofs.YtojocffjajcdmaaDoorW.PrintLast Go.Proofs.YtojocffjajcdmaaDoorW.PrintMore PChunkAll
set_option linter.unusedVariables false
set_option linter.unusedSimpArgs false

end Go.Proofs.YtojocffjajcdmaaDoor
namespace Go.Proofs.YtojocffjajcdmaaDoor
open Go.RowKit Go.Proofs.YtojocffjajcdmaaDoorW.PrintWords Go.Proofs.YtojocffjajcdmaaDoorW.PrintLast Go.Proofs.YtojocffjajcdmaaDoorW.PrintMore PChunkAll
set_option linter.unusedVariables false
set_option linter.unusedSimpArgs false

/-- An entry's block. -/
def Ent (W : World) (g : Nat) (x : S33) (A : Option Addr) (c : Nat) : Prop := W.heap[g]? = some (.cells (entC x A c) 33 (0, 0)) ∧ Kd.C k112 W A x.f2.length x.f2
theorem Ent.below {W W' : World} {g : Nat} {x : S33} {A : Option Addr} {c : Nat} (h : Ent W g x A c) (hb : Below W.heap.size W W') : Ent W' g x A c := ⟨blk_below h.1 hb, Kd.C_below h.2 hb⟩
theorem Ent.new {W : World} {x : S33} {A : Option Addr} {c : Nat} (h : Kd.C k112 W A x.f2.length x.f2) : Ent (W.alloc (.cells (entC x A c) 33)) W.heap.size x A c := ⟨heap_alloc_new W _, Kd.C_alloc h _⟩
theorem Ent.cell {W : World} {g : Nat} {x : S33} {A : Option Addr} {c : Nat} (h : Ent W g x A c) : W.cell? ⟨g, 0, none⟩ = some (.int .i64 x.f0) ∧ W.cell? ⟨g, 1, none⟩ = some (.int .i64 x.f1) ∧ W.cell? ⟨g, 2, none⟩ = some (.slice A x.f2.length c) ∧ W.cell? ⟨g, 3, none⟩ = some (.string x.f3) :=
  ⟨(blk_cell h.1 0).trans rfl, (blk_cell h.1 1).trans rfl, (blk_cell h.1 2).trans rfl, (blk_cell h.1 3).trans rfl⟩
theorem Ent.c {W : World} {g : Nat} {x : S33} {A : Option Addr} {c : Nat} (h : Ent W g x A c) : Kd.C k112 W A x.f2.length x.f2 := h.2
end Go.Proofs.YtojocffjajcdmaaDoor
