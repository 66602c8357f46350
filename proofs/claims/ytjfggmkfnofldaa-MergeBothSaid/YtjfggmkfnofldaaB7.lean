import Derived.Test.YtjfggmkfnofldaaB6
namespace Go.Proofs.Ytjfggmkfnofldaa
open Go.RowKit
set_option linter.unusedVariables false

def upF (nw : Bool) : Nat → List It → Nat → List It
  | 0, xs, _ => xs
  | f + 1, xs, j => if j = 0 then xs else if itLess nw (getI xs j) (getI xs ((j - 1) / 2)) then upF nw f (swapL xs ((j - 1) / 2) j) ((j - 1) / 2) else xs

def UpRel (w : World) (base hb : Nat) (v : Value) (nw : Bool) (xs : List It) (j0 : Nat) (v1 : Value) (wr : World) : Prop :=
  ∃ (j f : Nat) (ys : List It), v1 = .int .i64 j ∧ j ≤ j0 ∧ j < f ∧ ys.length = xs.length ∧ upF nw f ys j = upF nw (j0 + 1) xs j0 ∧ HS wr base hb v nw ys ∧ Keep2 w wr hb v.ownBlock

set_option maxHeartbeats 2000000 in
theorem up_any (w : World) (base hb : Nat) (v : Value) (nw : Bool) (xs : List It) (j0 : Nat) (h : HS w base hb v nw xs) (hj : j0 < xs.length) :
    Calls Try.prog 46 #[ifc hb, .int .i64 j0] w (SwapPost w base hb v nw (upF nw (j0 + 1) xs j0)) := by
  have hs := h.small
  have m1 := m_less
  have m2 := m_swap
  go_enter Try.func46, Try.ntmps46
  go_wp2
  go_loopw [1] (fun v1 wr => UpRel w base hb v nw xs j0 v1 wr) (fun v1 _ => (intOf v1).toNat)
  case atStart => exact ⟨j0, j0 + 1, xs, rfl, by omega, by omega, rfl, rfl, h, Keep2.refl _ _ _⟩
  case round =>
    obtain ⟨j, f, ys, rfl, h1, h2, h3, h4, h5, h6⟩ := hrel
    have H4 := Lib.hid h4; clear h4
    have H3 := Lib.hid h3
    have h3' : j < ys.length := by omega
    clear h3
    obtain ⟨f, rfl⟩ : ∃ g, f = g + 1 := ⟨f - 1, by omega⟩
    by_cases c1 : j = 0
    · have H0 := Lib.hid c1
      subst c1
      go_wp2_with fail
      go_end0
      exact ⟨rfl, by rw [← H4.out]; simpa [upF] using h5, h6⟩
    · have c1' : 1 ≤ j := by omega
      have c2 : (((j : Int) - 1) / 2 == (j : Int)) = false := by simp; omega
      clear c1
      go_wp2_with fail
      refine (h5.less' j ((j - 1) / 2) _ _ rfl (by omega) (by omega) (by omega)).mono ?_
      rintro e w1 ⟨rfl, hb1⟩
      have h7 := h5.below hb1
      have h8 := h6.trans (Keep2.of_below hb1 hb v.ownBlock) (.inl rfl)
      cases hd : itLess nw (getI ys j) (getI ys ((j - 1) / 2)) with
      | true =>
        have HD := Lib.hid hd; clear hd
        go_wp2_with fail
        refine (h7.swap' ((j - 1) / 2) j _ _ (by omega) rfl (by omega) (by omega)).mono ?_
        rintro e w3 ⟨rfl, hs3, hk3⟩
        have h9 := h8.trans hk3 (.inl rfl)
        go_wp2_with fail
        go_roundw
        case rel => exact ⟨(j - 1) / 2, f, _, (by rw [show (((j - 1) / 2 : Nat) : Int) = ((j : Int) - 1) / 2 from by omega]), by omega, by omega, by rw [swapL_length, H3.out], by rw [← H4.out, upF, if_neg (by omega), if_pos HD.out], hs3, h9⟩
        case measure => simp [intOf]; omega
      | false =>
        have HD := Lib.hid hd; clear hd
        go_wp2_with fail
        go_end0
        exact ⟨rfl, by rw [← H4.out, upF, if_neg (by omega), if_neg (by rw [HD.out]; simp)]; exact h7, h8⟩
end Go.Proofs.Ytjfggmkfnofldaa
