import Derived.Test.YtjfggmkfnofldaaB7
namespace Go.Proofs.Ytjfggmkfnofldaa
open Go.RowKit
set_option linter.unusedVariables false

def initF (nw : Bool) (n : Nat) : Nat → List It → List It
  | 0, xs => xs
  | k + 1, xs => initF nw n k (downF nw n xs k n)
theorem downF_length (nw : Bool) (f : Nat) : ∀ (xs : List It) (i n : Nat), (downF nw f xs i n).length = xs.length := by
  induction f with
  | zero => intros; rfl
  | succ f ih =>
    intro xs i n
    rw [downF]
    split
    · rfl
    · simp only [apply_ite List.length, ih, swapL_length, ite_self]

def InitRel (w : World) (base hb : Nat) (v : Value) (nw : Bool) (xs : List It) (v3 : Value) (wr : World) : Prop :=
  ∃ (k : Nat) (ys : List It), v3 = .int .i64 ((k : Int) - 1) ∧ k ≤ xs.length / 2 ∧ ys.length = xs.length ∧ initF nw xs.length k ys = initF nw xs.length (xs.length / 2) xs ∧ HS wr base hb v nw ys ∧ Keep2 w wr hb v.ownBlock

theorem HS.len (w : World) (base hb : Nat) (v : Value) (nw : Bool) (xs : List It) (h : HS w base hb v nw xs) :
    Calls Try.prog 38 #[.pointer (some ⟨hb, 0, none⟩)] w fun e w' => e = .returned (.int .i64 (xs.length : Nat)) ∧ w = w' := by
  rcases h.own.2 with ⟨hv, h0⟩ | ⟨g, cap, cur, hv, _⟩
  · exact len_any hb none xs.length 0 w (by rw [h0, ← hv]; exact h.blk.cell 0 _ rfl)
  · exact len_any hb _ _ cap w (by rw [← hv]; exact h.blk.cell 0 _ rfl)

set_option maxHeartbeats 2000000 in
theorem init_any (w : World) (base hb : Nat) (v : Value) (nw : Bool) (xs : List It) (h : HS w base hb v nw xs) :
    Calls Try.prog 36 #[ifc hb] w (SwapPost w base hb v nw (initF nw xs.length (xs.length / 2) xs)) := by
  have hs := h.small
  have m1 := m_len
  go_enter Try.func36, Try.ntmps36
  go_wp2_with fail
  refine (HS.len w base hb v nw xs h).mono ?_
  rintro e w1 ⟨rfl, rfl⟩
  go_wp2_with fail
  go_loopw [3] (fun v3 wr => InitRel w base hb v nw xs v3 wr) (fun v3 _ => (intOf v3 + 1).toNat)
  case atStart => exact ⟨xs.length / 2, xs, by rw [show ((xs.length / 2 : Nat) : Int) = (xs.length : Int) / 2 from by omega], Nat.le_refl _, rfl, rfl, h, Keep2.refl _ _ _⟩
  case round =>
    obtain ⟨k, ys, rfl, h1, h3, h4, h5, h6⟩ := hrel
    have H4 := Lib.hid h4; clear h4
    have H3 := Lib.hid h3
    have h3' : xs.length ≤ ys.length := by omega
    clear h3
    by_cases c1 : k = 0
    · subst c1
      go_wp2_with fail
      go_end0
      exact ⟨rfl, by rw [← H4.out]; simpa [initF] using h5, h6⟩
    · obtain ⟨k, rfl⟩ : ∃ g, k = g + 1 := ⟨k - 1, by omega⟩
      clear c1
      go_wp2_with fail
      rw [show (((k + 1 : Nat) : Int) - 1) = (k : Int) from by omega]
      refine (down_any wr base hb v nw ys k xs.length h5 (by omega) (by omega)).mono ?_
      rintro e w3 ⟨⟨b, rfl⟩, hs3, hk3⟩
      have h9 := h6.trans hk3 (.inl rfl)
      go_wp2_with fail
      go_roundw
      case rel => exact ⟨k, _, rfl, by omega, by rw [downF_length, H3.out], by rw [← H4.out, initF], hs3, h9⟩
      case measure => simp [intOf]

def popL (nw : Bool) (xs : List It) : List It := downF nw (xs.length - 1) (swapL xs 0 (xs.length - 1)) 0 (xs.length - 1)
theorem popL_length (nw : Bool) (xs : List It) : (popL nw xs).length = xs.length := by rw [popL, downF_length, swapL_length]
theorem popL_split (nw : Bool) (xs : List It) (h : 0 < xs.length) : popL nw xs = (popL nw xs).take (xs.length - 1) ++ [getI (popL nw xs) (xs.length - 1)] := by
  have hl := popL_length nw xs
  rw [getI_lt _ _ (by omega)]
  apply List.ext_getElem?
  intro i
  rcases Nat.lt_trichotomy i (xs.length - 1) with c | c | c
  · rw [List.getElem?_append_left (by simp; omega), List.getElem?_take, if_pos c]
  · subst c
    have : (List.take (xs.length - 1) (popL nw xs)).length = xs.length - 1 := by rw [List.length_take, hl]; omega
    rw [List.getElem?_append_right (by omega), this, Nat.sub_self]
    simp
  · rw [List.getElem?_eq_none (by omega), List.getElem?_eq_none (by simp; omega)]

set_option maxHeartbeats 2000000 in
theorem hpop_any (w : World) (base hb : Nat) (v : Value) (nw : Bool) (xs : List It) (h : HS w base hb v nw xs) (hp : 0 < xs.length) :
    Calls Try.prog 39 #[ifc hb] w (PopPost w base hb v nw ((popL nw xs).take (xs.length - 1)) (getI (popL nw xs) (xs.length - 1))) := by
  have hs := h.small
  have m1 := m_len
  have m2 := m_swap
  have m3 := m_pop
  go_enter Try.func39, Try.ntmps39
  go_wp2_with fail
  refine (HS.len w base hb v nw xs h).mono ?_
  rintro e w1 ⟨rfl, rfl⟩
  go_wp2_with fail
  refine (h.swap' 0 (xs.length - 1) _ _ (by simp) (by omega) (by omega) (by omega)).mono ?_
  rintro e w2 ⟨rfl, hs2, hk2⟩
  go_wp2_with fail
  rw [show ((xs.length : Int) - 1) = ((xs.length - 1 : Nat) : Int) from by omega]
  refine (down_any w2 base hb v nw _ 0 (xs.length - 1) hs2 (by omega) (by rw [swapL_length]; omega)).mono ?_
  rintro e w3 ⟨⟨b, rfl⟩, hs3, hk3⟩
  have hk4 := hk2.trans hk3 (.inl rfl)
  have hs4 : HS w3 base hb v nw (popL nw xs) := hs3
  rw [popL_split nw xs hp] at hs4
  have HS4 := Lib.hid hs4
  clear hs3 hs4
  go_wp2_with fail
  refine (HS4.out.pop).mono ?_
  rintro e w4 ⟨rfl, v', hs5, hk5, hv5⟩
  have hk6 := hk4.trans hk5 (.inl rfl)
  go_wp2_with fail
  go_ret
  exact ⟨rfl, v', hs5, hk6, hv5⟩

def pushL (nw : Bool) (xs : List It) (x : It) : List It := upF nw (xs.length + 1) (xs ++ [x]) xs.length
set_option maxHeartbeats 2000000 in
theorem hpush_any (w : World) (base hb : Nat) (v : Value) (nw : Bool) (xs : List It) (x : It) (h : HS w base hb v nw xs) (hx : RowOk w base x) (hbase : base ≤ w.heap.size) (hl : xs.length < 100000000000) :
    Calls Try.prog 40 #[ifc hb, .iface 62 x.val] w (PushedPost w base hb v nw (pushL nw xs x)) := by
  have m1 := m_len
  have m3 := m_push
  go_enter Try.func40, Try.ntmps40
  go_wp2_with fail
  refine (h.push x hx hbase hl).mono ?_
  rintro e w1 ⟨rfl, v', hs2, hk2, hv2⟩
  go_wp2_with fail
  refine (HS.len w1 base hb v' nw _ hs2).mono ?_
  rintro e w2 ⟨rfl, rfl⟩
  have HL : Hid ((xs ++ [x]).length = xs.length + 1) := Lib.hid (by simp)
  rw [HL.out]
  go_wp2_with fail
  refine (up_any w1 base hb v' nw (xs ++ [x]) xs.length hs2 (by rw [HL.out]; omega)).mono ?_
  rintro e w3 ⟨rfl, hs3, hk3⟩
  have hk4 := hk2.trans hk3 hv2
  go_wp2_with fail
  go_end0
  exact ⟨rfl, v', hs3, hk4, hv2⟩
end Go.Proofs.Ytjfggmkfnofldaa
