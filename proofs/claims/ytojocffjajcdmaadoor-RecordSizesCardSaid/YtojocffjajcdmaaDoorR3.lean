import Derived.Test.YtojocffjajcdmaaDoorR2
namespace Go.Proofs.YtojocffjajcdmaaDoor
open Go.RowKit Go.Proofs.YtojocffjajcdmaaDoorW.PrintWords Go.Proofs.YtojocffjajcdmaaDoorW.PrintLast Go.Proofs.YtojocffjajcdmaaDoorW.PrintMore PChunkAll
set_option linter.unusedVariables false
set_option linter.unusedSimpArgs false

/-- May an entry be? -/
def rightE (x : S33) : Bool := (decide (1 ≤ x.f0) && (decide (x.f0 < 1099511627776) && (decide (0 ≤ x.f1) && decide (x.f1 < 1099511627776)))) && (rightL x.f2 && decide (x.f3.size ≤ 1024))
abbrev entA (x : S33) (A : Option Addr) (c : Nat) : Value := .agg #[.int .i64 x.f0, .int .i64 x.f1, .slice A x.f2.length c, .string x.f3]
abbrev entC (x : S33) (A : Option Addr) (c : Nat) : Array Value := #[.int .i64 x.f0, .int .i64 x.f1, .slice A x.f2.length c, .string x.f3]

set_option maxHeartbeats 1000000 in
theorem rightE_any (x : S33) (A : Option Addr) (c : Nat) (w : World) (hT : Tabs w) (hr : Kd.C k112 w A x.f2.length x.f2) : Calls Tryd.prog 29 #[entA x A c] w (BoolBelow (rightE x) w) := by
  have hb0 : Below w.heap.size w (w.alloc (.cells (entC x A c) 33)) := below_alloc (Below.refl _ _) _
  have HRL := Lib.hid (right_any A c x.f2 _ (hT.below hb0) (Kd.C_alloc hr (.cells (entC x A c) 33)))
  have c3 : (w.alloc (.cells (entC x A c) 33)).cell? ⟨w.heap.size, 3, none⟩ = some (.string x.f3) := by rw [blk_cell (heap_alloc_new w _)]; rfl
  have HE : Hid (rightE x = ((decide (1 ≤ x.f0) && (decide (x.f0 < 1099511627776) && (decide (0 ≤ x.f1) && decide (x.f1 < 1099511627776)))) && (rightL x.f2 && decide (x.f3.size ≤ 1024)))) := Lib.hid rfl
  clear hT hr
  by_cases h1 : 1 ≤ x.f0
  · have e1 : decide (1 ≤ x.f0) = true := decide_eq_true h1
    by_cases h2 : x.f0 < 1099511627776
    · have e2 : decide (x.f0 < 1099511627776) = true := decide_eq_true h2
      by_cases h3 : 0 ≤ x.f1
      · have e3 : decide (0 ≤ x.f1) = true := decide_eq_true h3
        by_cases h4 : x.f1 < 1099511627776
        · have e4 : decide (x.f1 < 1099511627776) = true := decide_eq_true h4
          cases h5 : rightL x.f2 with
          | true =>
            rw [h5] at HRL
            by_cases h6 : x.f3.size ≤ 1024
            · have e6 : decide ((x.f3.size : Int) ≤ 1024) = true := decide_eq_true (by omega)
              have HF : Hid (rightE x = true) := Lib.hid (by rw [HE.out, e1, e2, e3, e4, h5, decide_eq_true h6]; rfl)
              clear h5 HE
              go_enter Tryd.func29, Tryd.ntmps29
              go_wp2_with (go_at_call 95; refine (HRL.out).mono ?_; rintro e w2 ⟨rfl, hb⟩; have hc := pw_cell_below hb c3)
              go_ret
              exact ⟨by rw [HF.out]; rfl, below_then hb0 hb0.size hb⟩
            · have e6 : decide ((x.f3.size : Int) ≤ 1024) = false := decide_eq_false (by omega)
              have HF : Hid (rightE x = false) := Lib.hid (by rw [HE.out, decide_eq_false h6]; simp)
              clear h5 HE
              go_enter Tryd.func29, Tryd.ntmps29
              go_wp2_with (go_at_call 95; refine (HRL.out).mono ?_; rintro e w2 ⟨rfl, hb⟩; have hc := pw_cell_below hb c3)
              go_ret
              exact ⟨by rw [HF.out]; rfl, below_then hb0 hb0.size hb⟩
          | false =>
            rw [h5] at HRL
            have HF : Hid (rightE x = false) := Lib.hid (by rw [HE.out, h5]; simp)
            clear h5 HE
            go_enter Tryd.func29, Tryd.ntmps29
            go_wp2_with (go_at_call 95; refine (HRL.out).mono ?_; rintro e w2 ⟨rfl, hb⟩)
            go_ret
            exact ⟨by rw [HF.out]; rfl, below_then hb0 hb0.size hb⟩
        · have e4 : decide (x.f1 < 1099511627776) = false := decide_eq_false h4
          have HF : Hid (rightE x = false) := Lib.hid (by rw [HE.out, e4]; simp)
          clear HE
          go_enter Tryd.func29, Tryd.ntmps29
          go_wp2
          go_ret
          exact ⟨by rw [HF.out]; rfl, hb0⟩
      · have e3 : decide (0 ≤ x.f1) = false := decide_eq_false h3
        have HF : Hid (rightE x = false) := Lib.hid (by rw [HE.out, e3]; simp)
        clear HE
        go_enter Tryd.func29, Tryd.ntmps29
        go_wp2
        go_ret
        exact ⟨by rw [HF.out]; rfl, hb0⟩
    · have e2 : decide (x.f0 < 1099511627776) = false := decide_eq_false h2
      have HF : Hid (rightE x = false) := Lib.hid (by rw [HE.out, e2]; simp)
      clear HE
      go_enter Tryd.func29, Tryd.ntmps29
      go_wp2
      go_ret
      exact ⟨by rw [HF.out]; rfl, hb0⟩
  · have e1 : decide (1 ≤ x.f0) = false := decide_eq_false h1
    have HF : Hid (rightE x = false) := Lib.hid (by rw [HE.out, e1]; simp)
    clear HE
    go_enter Tryd.func29, Tryd.ntmps29
    go_wp2
    go_ret
    exact ⟨by rw [HF.out]; rfl, hb0⟩
end Go.Proofs.YtojocffjajcdmaaDoor
