import Derived.Test.YtjfggmkfnofldaaB5
import Derived.LoopTactic
import Derived.Deep.LoopGhost
namespace Go.Proofs.Ytjfggmkfnofldaa
open Go.RowKit
set_option linter.unusedVariables false

def downF (nw : Bool) : Nat → List It → Nat → Nat → List It
  | 0, xs, _, _ => xs
  | f + 1, xs, i, n =>
    if n ≤ 2 * i + 1 then xs else
    let j := if 2 * i + 2 < n then (if itLess nw (getI xs (2 * i + 2)) (getI xs (2 * i + 1)) then 2 * i + 2 else 2 * i + 1) else 2 * i + 1
    if itLess nw (getI xs j) (getI xs i) then downF nw f (swapL xs i j) j n else xs

theorem m_less (a : Addr) (w : World) : (method 198 50 (.pointer (some a)) "Less").run Try.prog w = .ok (68, .pointer (some a)) w := by kernel_rfl
theorem m_len (a : Addr) (w : World) : (method 198 50 (.pointer (some a)) "Len").run Try.prog w = .ok (38, .pointer (some a)) w := by kernel_rfl
theorem m_pop (a : Addr) (w : World) : (method 198 50 (.pointer (some a)) "Pop").run Try.prog w = .ok (69, .pointer (some a)) w := by kernel_rfl
theorem m_push (a : Addr) (w : World) : (method 198 50 (.pointer (some a)) "Push").run Try.prog w = .ok (70, .pointer (some a)) w := by kernel_rfl
theorem m_swap (a : Addr) (w : World) : (method 198 50 (.pointer (some a)) "Swap").run Try.prog w = .ok (71, .pointer (some a)) w := by kernel_rfl
abbrev ifc (hb : Nat) : Value := .iface 50 (.pointer (some ⟨hb, 0, none⟩))
def DownPost (w : World) (base hb : Nat) (v : Value) (nw : Bool) (ys : List It) (e : Ending) (w' : World) : Prop :=
  (∃ b, e = .returned (.bool b)) ∧ HS w' base hb v nw ys ∧ Keep2 w w' hb v.ownBlock

def DownRel (w : World) (base hb : Nat) (v : Value) (nw : Bool) (xs : List It) (i0 n : Nat) (v7 : Value) (wr : World) : Prop :=
  ∃ (i f : Nat) (ys : List It), v7 = .int .i64 i ∧ i ≤ n ∧ n ≤ f + i ∧ ys.length = xs.length ∧ downF nw f ys i n = downF nw n xs i0 n ∧ HS wr base hb v nw ys ∧ Keep2 w wr hb v.ownBlock


section
variable {w w' : World} {base hb : Nat} {v : Value} {nw : Bool} {xs : List It}
theorem HS.less' (h : HS w base hb v nw xs) (i j : Nat) (a b : Int) (ha : a = i) (hb' : b = j) (hi : i < xs.length) (hj : j < xs.length) :
    Calls Try.prog 68 #[.pointer (some ⟨hb, 0, none⟩), .int .i64 a, .int .i64 b] w fun e w' => e = .returned (.bool (itLess nw (getI xs i) (getI xs j))) ∧ Below w.heap.size w w' := by
  subst ha hb'; exact h.less i j hi hj
theorem HS.swap' (h : HS w base hb v nw xs) (i j : Nat) (a b : Int) (ha : a = i) (hb' : b = j) (hi : i < xs.length) (hj : j < xs.length) :
    Calls Try.prog 71 #[.pointer (some ⟨hb, 0, none⟩), .int .i64 a, .int .i64 b] w (SwapPost w base hb v nw (swapL xs i j)) := by
  subst ha hb'; exact h.swap i j hi hj
end

theorem downF_end (nw : Bool) (f : Nat) (xs : List It) (i n : Nat) (h : n ≤ 2 * i + 1) : downF nw f xs i n = xs := by
  cases f with
  | zero => rfl
  | succ f => simp [downF, h]
theorem downF_right (nw : Bool) (f : Nat) (xs : List It) (i n : Nat) (h : 2 * i + 2 < n) (hl : itLess nw (getI xs (2 * i + 2)) (getI xs (2 * i + 1)) = true) :
    downF nw (f + 1) xs i n = if itLess nw (getI xs (2 * i + 2)) (getI xs i) then downF nw f (swapL xs i (2 * i + 2)) (2 * i + 2) n else xs := by
  rw [downF, if_neg (by omega)]; simp [h, hl]
theorem downF_left (nw : Bool) (f : Nat) (xs : List It) (i n : Nat) (h0 : 2 * i + 1 < n) (hl : ¬ (2 * i + 2 < n) ∨ itLess nw (getI xs (2 * i + 2)) (getI xs (2 * i + 1)) = false) :
    downF nw (f + 1) xs i n = if itLess nw (getI xs (2 * i + 1)) (getI xs i) then downF nw f (swapL xs i (2 * i + 1)) (2 * i + 1) n else xs := by
  rw [downF, if_neg (by omega)]
  rcases hl with hl | hl <;> simp [hl]

set_option maxHeartbeats 2000000 in
theorem down_any (w : World) (base hb : Nat) (v : Value) (nw : Bool) (xs : List It) (i0 n : Nat) (h : HS w base hb v nw xs) (hi : i0 ≤ n) (hn : n ≤ xs.length) :
    Calls Try.prog 45 #[ifc hb, .int .i64 i0, .int .i64 n] w (DownPost w base hb v nw (downF nw n xs i0 n)) := by
  have hs := h.small
  have m1 := m_less
  have m2 := m_swap
  go_enter Try.func45, Try.ntmps45
  go_wp2
  go_loopw [7] (fun v7 wr => DownRel w base hb v nw xs i0 n v7 wr) (fun v7 _ => n - (intOf v7).toNat)
  case atStart => exact ⟨i0, n, xs, rfl, hi, by omega, rfl, rfl, h, Keep2.refl _ _ _⟩
  case round =>
    obtain ⟨i, f, ys, rfl, h1, h2, h3, h4, h5, h6⟩ := hrel
    have H4 := Lib.hid h4; clear h4
    by_cases c1 : n ≤ 2 * i + 1
    · go_wp2
      go_ret
      exact ⟨⟨_, rfl⟩, by rw [← H4.out, downF_end nw f ys i n c1]; exact h5, h6⟩
    · have c1' : 2 * i + 1 < n := by omega
      obtain ⟨f, rfl⟩ : ∃ g, f = g + 1 := ⟨f - 1, by omega⟩
      have H3 := Lib.hid h3
      have h3' : n ≤ ys.length := by omega
      clear h3
      by_cases c2 : 2 * i + 2 < n
      · go_wp2_with fail
        refine (h5.less' (2 * i + 2) (2 * i + 1) _ _ (by omega) (by omega) (by omega) (by omega)).mono ?_
        rintro e w1 ⟨rfl, hb1⟩
        have h5' := h5.below hb1
        have h6' := h6.trans (Keep2.of_below hb1 hb v.ownBlock) (.inl rfl)
        cases hc : itLess nw (getI ys (2 * i + 2)) (getI ys (2 * i + 1)) with
        | true =>
          have HC := Lib.hid hc; clear hc
          go_wp2_with fail
          refine (h5'.less' (2 * i + 2) i _ _ (by omega) rfl (by omega) (by omega)).mono ?_
          rintro e w2 ⟨rfl, hb2⟩
          have h7 := h5'.below hb2
          have h8 := h6'.trans (Keep2.of_below hb2 hb v.ownBlock) (.inl rfl)
          cases hd : itLess nw (getI ys (2 * i + 2)) (getI ys i) with
          | true =>
            have HD := Lib.hid hd; clear hd
            go_wp2_with fail
            refine (h7.swap' i (2 * i + 2) _ _ rfl (by omega) (by omega) (by omega)).mono ?_
            rintro e w3 ⟨rfl, hs3, hk3⟩
            have h9 := h8.trans hk3 (.inl rfl)
            go_wp2_with fail
            go_roundw
            case rel => exact ⟨2 * i + 2, f, _, by go_num, by omega, by omega, by rw [swapL_length, H3.out], by rw [← H4.out, downF_right nw f ys i n c2 HC.out, if_pos HD.out], hs3, h9⟩
            case measure => simp [intOf]; omega
          | false =>
            have HD := Lib.hid hd; clear hd
            go_wp2_with fail
            go_ret
            exact ⟨⟨_, rfl⟩, by rw [← H4.out, downF_right nw f ys i n c2 HC.out, if_neg (by rw [HD.out]; simp)]; exact h7, h8⟩
        | false =>
          have HC := Lib.hid hc; clear hc
          go_wp2_with fail
          refine (h5'.less' (2 * i + 1) i _ _ (by omega) rfl (by omega) (by omega)).mono ?_
          rintro e w2 ⟨rfl, hb2⟩
          have h7 := h5'.below hb2
          have h8 := h6'.trans (Keep2.of_below hb2 hb v.ownBlock) (.inl rfl)
          cases hd : itLess nw (getI ys (2 * i + 1)) (getI ys i) with
          | true =>
            have HD := Lib.hid hd; clear hd
            go_wp2_with fail
            refine (h7.swap' i (2 * i + 1) _ _ rfl (by omega) (by omega) (by omega)).mono ?_
            rintro e w3 ⟨rfl, hs3, hk3⟩
            have h9 := h8.trans hk3 (.inl rfl)
            go_wp2_with fail
            go_roundw
            case rel => exact ⟨2 * i + 1, f, _, by go_num, by omega, by omega, by rw [swapL_length, H3.out], by rw [← H4.out, downF_left nw f ys i n c1' (.inr HC.out), if_pos HD.out], hs3, h9⟩
            case measure => simp [intOf]; omega
          | false =>
            have HD := Lib.hid hd; clear hd
            go_wp2_with fail
            go_ret
            exact ⟨⟨_, rfl⟩, by rw [← H4.out, downF_left nw f ys i n c1' (.inr HC.out), if_neg (by rw [HD.out]; simp)]; exact h7, h8⟩
      · have c2' : n ≤ 2 * i + 2 := by omega
        go_wp2_with fail
        refine (h5.less' (2 * i + 1) i _ _ (by omega) rfl (by omega) (by omega)).mono ?_
        rintro e w2 ⟨rfl, hb2⟩
        have h7 := h5.below hb2
        have h8 := h6.trans (Keep2.of_below hb2 hb v.ownBlock) (.inl rfl)
        cases hd : itLess nw (getI ys (2 * i + 1)) (getI ys i) with
        | true =>
          have HD := Lib.hid hd; clear hd
          go_wp2_with fail
          refine (h7.swap' i (2 * i + 1) _ _ rfl (by omega) (by omega) (by omega)).mono ?_
          rintro e w3 ⟨rfl, hs3, hk3⟩
          have h9 := h8.trans hk3 (.inl rfl)
          go_wp2_with fail
          go_roundw
          case rel => exact ⟨2 * i + 1, f, _, by go_num, by omega, by omega, by rw [swapL_length, H3.out], by rw [← H4.out, downF_left nw f ys i n c1' (.inl c2), if_pos HD.out], hs3, h9⟩
          case measure => simp [intOf]; omega
        | false =>
          have HD := Lib.hid hd; clear hd
          go_wp2_with fail
          go_ret
          exact ⟨⟨_, rfl⟩, by rw [← H4.out, downF_left nw f ys i n c1' (.inl c2), if_neg (by rw [HD.out]; simp)]; exact h7, h8⟩
end Go.Proofs.Ytjfggmkfnofldaa
