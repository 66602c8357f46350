import Derived.Test.YtojocffjajcdmaaDoorLA
import Derived.Lib.VarintBits
import Derived.Test.YtojocffjajcdmaaDoorVx5
namespace Go.Proofs.YtojocffjajcdmaaDoor
open Go.RowKit Go.Proofs.YtojocffjajcdmaaDoorW.PrintWords Go.Proofs.YtojocffjajcdmaaDoorW.PrintLast Go.Proofs.YtojocffjajcdmaaDoorW.PrintMore PChunkAll
set_option linter.unusedVariables false
set_option linter.unusedSimpArgs false

/-! ### Numbers read -/
/-- k bytes may still be read, i have been, which said acc. -/
def numA : Nat → Nat → Nat → List Int → Int × Nat × Int
  | 0, _, _, _ => (0, 0, 21)
  | _ + 1, _, _, [] => (0, 0, 20)
  | k + 1, i, acc, b :: bs => if b < 128 then (if 0 < i ∧ b = 0 then (0, 0, 21) else (((acc + (b % 128).toNat * 128 ^ i : Nat) : Int), i + 1, 0)) else numA k (i + 1) (acc + (b % 128).toNat * 128 ^ i) bs
def numG (bs : List Int) : Int × Nat × Int := numA 8 0 0 bs
def Byt (bs : List Int) : Prop := ∀ x ∈ bs, 0 ≤ x ∧ x < 256
theorem Byt.drop {bs : List Int} (h : Byt bs) (k : Nat) : Byt (bs.drop k) := fun x hx => h x (List.mem_of_mem_drop hx)
theorem Byt.take {bs : List Int} (h : Byt bs) (k : Nat) : Byt (bs.take k) := fun x hx => h x (List.mem_of_mem_take hx)
theorem wrap64_nat (n : Nat) (h : n < 9223372036854775808) : wrap64 (n : Int) = (n : Int) := by unfold wrap64; omega
end Go.Proofs.YtojocffjajcdmaaDoor
namespace Go.Proofs.YtojocffjajcdmaaDoor
open Go.RowKit Go.Proofs.YtojocffjajcdmaaDoorW.PrintWords Go.Proofs.YtojocffjajcdmaaDoorW.PrintLast Go.Proofs.YtojocffjajcdmaaDoorW.PrintMore PChunkAll
set_option linter.unusedVariables false
set_option linter.unusedSimpArgs false

theorem rletter_some (c : Int) : icehouseref02_letter.f c = some (isLet c) := letter_some c
theorem rdigit_some (c : Int) : icehouseref02_digit.f c = some (isDig c) := digit_some c
theorem bt_at (s : ByteArray) (i : Nat) (h : i < s.size) : bt s (i : Int) = (s[i].toNat : Int) := by
  unfold bt
  rw [dif_pos (by simpa using h)]
  rfl
theorem rname_l0 (s : ByteArray) (hs : s.size ≤ 9223372036854775807) (n i : Nat) (h : i + n = s.size) : icehouseref02_Name.l0 (n + 1) s (i : Int) = some (nameB i (s.data.toList.drop i) && (decide (1 ≤ s.size) && decide (s.size ≤ 64))) := by
  induction n generalizing i with
  | zero =>
    rw [icehouseref02_Name.l0, if_neg (by omega), List.drop_eq_nil_of_le (by rw [data_length]; omega), nameB]
    by_cases h1 : 1 ≤ s.size
    · rw [if_pos (by omega), decide_eq_true h1]
      simp only [Bool.true_and]
      congr 1
      exact decide_eq_decide.2 (by omega)
    · rw [if_neg (by omega), decide_eq_false h1]
      rfl
  | succ n ih =>
    have hi : i < s.size := by omega
    have hw : wrap64 ((i : Int) + 1) = ((i + 1 : Nat) : Int) := by unfold wrap64; omega
    rw [icehouseref02_Name.l0, if_pos (by omega), if_pos (by omega), bt_at s i hi, rletter_some, rdigit_some, drop_at s i hi, nameB_cons, hw, ih (i + 1) (by omega)]
    simp only [Option.bind_some]
    cases hL : isLet (s[i].toNat : Int) with
    | true => simp
    | false =>
      by_cases h0 : i = 0
      · subst h0; simp
      · rw [if_neg (by simp), if_neg (by omega)]
        cases hD : isDig (s[i].toNat : Int) with
        | true => simp [show 0 < i by omega]
        | false => simp
theorem rname_f (s : ByteArray) (hs : s.size ≤ 9223372036854775807) : icehouseref02_Name.f (s.size + 1) s = some (nameI s) := by
  unfold icehouseref02_Name.f nameI
  have := rname_l0 s hs s.size 0 (by omega)
  rw [List.drop_zero] at this
  exact this
theorem rname_any (s : ByteArray) (hs : s.size ≤ 9223372036854775807) (w : World) : Calls Tryd.prog 145 #[.string s] w fun e w' => e = .returned (.bool (nameI s)) ∧ Drawn0 w w' := by
  refine (icehouseref02_Name.calls _ s _ w (rname_f s hs)).mono fun e w' h => h
end Go.Proofs.YtojocffjajcdmaaDoor
namespace Go.Proofs.YtojocffjajcdmaaDoor
open Go.RowKit Go.Lib Go.Proofs.YtojocffjajcdmaaDoorW.PrintWords Go.Proofs.YtojocffjajcdmaaDoorW.PrintLast Go.Proofs.YtojocffjajcdmaaDoorW.PrintMore PChunkAll
set_option linter.unusedVariables false
set_option linter.unusedSimpArgs false

/-! ### The reference's UTF-8 -/
theorem bt_nat (s : ByteArray) (i : Nat) : bt s (i : Int) = ((s.data.toList.getD i 0).toNat : Int) := by
  unfold bt
  rw [Int.toNat_natCast]
  split
  · rename_i h
    have hl : i < s.data.toList.length := by rw [data_length]; exact h
    rw [List.getD_eq_getElem?_getD, List.getElem?_eq_getElem hl]
    rfl
  · rename_i h
    rw [List.getD_eq_getElem?_getD, List.getElem?_eq_none (by rw [data_length]; omega)]
    rfl
theorem rl_step (k : Nat) (s : ByteArray) (c n least : Int) (i b : Nat) (hb : (b : Int) = bt s (i : Int)) (hi : (i : Int) < n) (hs : i < s.size) (hi2 : i < 10) (hc0 : 0 ≤ c) (hc : c ≤ 1000000) :
    icehouseref02_Rune.l0 (k + 1) s c n least (i : Int) = if b < 128 ∨ 192 ≤ b then some (0, 0) else icehouseref02_Rune.l0 k s (64 * c + b - 128) n least ((i + 1 : Nat) : Int) := by
  have hr := bt_range s (i : Int)
  rw [icehouseref02_Rune.l0, if_pos hi, if_pos (by omega), if_pos (by omega), ← hb]
  by_cases h1 : b < 128
  · rw [if_pos (by omega), if_pos (by omega)]
  · by_cases h2 : 192 ≤ b
    · rw [if_neg (by omega), if_pos (by omega), if_pos (by omega)]
    · rw [if_neg (by omega), if_neg (by omega), if_neg (by omega)]
      congr 1
      · unfold wrap64; omega
      · unfold wrap64; omega
theorem rl_end (k : Nat) (s : ByteArray) (c n least i : Int) (hi : ¬ i < n) :
    icehouseref02_Rune.l0 (k + 1) s c n least i = if c < least ∨ 1114111 < c ∨ (55296 ≤ c ∧ c < 57344) then some (0, 0) else some (c, n) := by
  rw [icehouseref02_Rune.l0, if_neg hi]
  repeat' split
  all_goals first | rfl | (exfalso; omega)
def widthO (r : Option (Int × Int)) : Option Int := r.map (·.2)
theorem rj2 (k : Nat) (s : ByteArray) (b1 b2 b3 : Nat) (e1 : (b1 : Int) = bt s ((1 : Nat) : Int)) (e2 : (b2 : Int) = bt s ((2 : Nat) : Int)) (e3 : (b3 : Int) = bt s ((3 : Nat) : Int)) (c : Int) (least : Int) (hc0 : 0 ≤ c) (hc : c < 32) (m : Nat) (hm : m = 2 ∨ m = 3 ∨ m = 4) :
    widthO (icehouseref02_Rune.j2 (k + 7) s c (m : Int) least) = some (if s.size < m ∨ b1 < 128 ∨ 192 ≤ b1 ∨ (2 < m ∧ (b2 < 128 ∨ 192 ≤ b2 ∨ (3 < m ∧ (b3 < 128 ∨ 192 ≤ b3)))) then 0 else
      (let v : Int := if m = 2 then 64 * c + b1 - 128 else if m = 3 then 64 * (64 * c + b1 - 128) + b2 - 128 else 64 * (64 * (64 * c + b1 - 128) + b2 - 128) + b3 - 128
       if v < least ∨ 1114111 < v ∨ (55296 ≤ v ∧ v < 57344) then 0 else (m : Int))) := by
  have r1 := bt_range s ((1 : Nat) : Int)
  have r2 := bt_range s ((2 : Nat) : Int)
  have r3 := bt_range s ((3 : Nat) : Int)
  rw [icehouseref02_Rune.j2]
  by_cases h0 : s.size < m
  · rw [if_pos (by omega), if_pos (by omega)]; rfl
  rw [if_neg (by omega)]
  have st1 := rl_step (k + 5) s c (m : Int) least 1 b1 e1 (by omega) (by omega) (by omega) hc0 (by omega)
  rw [show ((1 : Nat) : Int) = 1 from rfl] at st1
  rw [st1]
  by_cases h1 : b1 < 128 ∨ 192 ≤ b1
  · rw [if_pos h1, if_pos (by omega)]; rfl
  rw [if_neg h1]
  rcases hm with rfl | rfl | rfl
  · rw [if_neg (show ¬ (s.size < 2 ∨ b1 < 128 ∨ 192 ≤ b1 ∨ (2 < 2 ∧ (b2 < 128 ∨ 192 ≤ b2 ∨ (3 < 2 ∧ (b3 < 128 ∨ 192 ≤ b3))))) by omega), rl_end _ _ _ _ _ _ (by omega)]
    simp only [if_true]
    split <;> rfl
  · rw [rl_step (k + 4) s _ _ least 2 b2 e2 (by omega) (by omega) (by omega) (by omega) (by omega)]
    by_cases h2 : b2 < 128 ∨ 192 ≤ b2
    · rw [if_pos h2, if_pos (by omega)]; rfl
    rw [if_neg h2, if_neg (show ¬ (s.size < 3 ∨ b1 < 128 ∨ 192 ≤ b1 ∨ (2 < 3 ∧ (b2 < 128 ∨ 192 ≤ b2 ∨ (3 < 3 ∧ (b3 < 128 ∨ 192 ≤ b3))))) by omega), rl_end _ _ _ _ _ _ (by omega)]
    simp only [show ¬ (3 = 2) by decide, if_true, if_false]
    split <;> rfl
  · rw [rl_step (k + 4) s _ _ least 2 b2 e2 (by omega) (by omega) (by omega) (by omega) (by omega)]
    by_cases h2 : b2 < 128 ∨ 192 ≤ b2
    · rw [if_pos h2, if_pos (by omega)]; rfl
    rw [if_neg h2, rl_step (k + 3) s _ _ least 3 b3 e3 (by omega) (by omega) (by omega) (by omega) (by omega)]
    by_cases h3 : b3 < 128 ∨ 192 ≤ b3
    · rw [if_pos h3, if_pos (by omega)]; rfl
    rw [if_neg h3, if_neg (show ¬ (s.size < 4 ∨ b1 < 128 ∨ 192 ≤ b1 ∨ (2 < 4 ∧ (b2 < 128 ∨ 192 ≤ b2 ∨ (3 < 4 ∧ (b3 < 128 ∨ 192 ≤ b3))))) by omega), rl_end _ _ _ _ _ _ (by omega)]
    simp only [show ¬ (4 = 2) by decide, show ¬ (4 = 3) by decide, if_false]
    split <;> rfl
set_option maxHeartbeats 1000000 in
theorem rune_width (k : Nat) (s : ByteArray) (hs : 0 < s.size) (b0 b1 b2 b3 : Nat) (e0 : (b0 : Int) = bt s 0) (e1 : (b1 : Int) = bt s ((1 : Nat) : Int)) (e2 : (b2 : Int) = bt s ((2 : Nat) : Int)) (e3 : (b3 : Int) = bt s ((3 : Nat) : Int)) :
    widthO (icehouseref02_Rune.f (k + 9) s) = some (if b0 < 128 then 1 else (((refN s.size b0 b1 b2 b3).getD 0 : Nat) : Int)) := by
  have r0 := bt_range s 0
  have hw : wrap64 (b0 : Int) = b0 := by unfold wrap64; omega
  unfold icehouseref02_Rune.f
  rw [if_neg (by omega), if_pos (by omega), ← e0, hw]
  by_cases h1 : b0 < 128
  · rw [if_pos (by omega), if_pos h1]; rfl
  rw [if_neg (by omega), if_neg h1]
  by_cases h2 : b0 < 192
  · rw [if_neg (by omega), icehouseref02_Rune.j0, if_neg (by simp), if_neg (by omega), icehouseref02_Rune.j1, if_neg (by simp), if_neg (by omega)]
    rw [show refN s.size b0 b1 b2 b3 = none by unfold refN; rw [if_neg (by omega), if_neg (by omega), if_neg (by omega)]]
    rfl
  rw [if_pos (by omega)]
  by_cases h3 : b0 < 224
  · rw [icehouseref02_Rune.j0, if_pos (decide_eq_true (by omega)), show wrap64 ((b0 : Int) - 192) = (b0 : Int) - 192 by unfold wrap64; omega]
    have := rj2 (k + 1) s b1 b2 b3 e1 e2 e3 ((b0 : Int) - 192) 128 (by omega) (by omega) 2 (.inl rfl)
    rw [show ((2 : Nat) : Int) = 2 from rfl] at this
    rw [this]
    unfold refN
    rw [if_pos (show 192 ≤ b0 ∧ b0 < 224 by omega)]
    simp only [if_true]
    repeat' split
    all_goals first | rfl | (exfalso; omega)
  rw [icehouseref02_Rune.j0, if_neg (by simp; omega)]
  rw [if_pos (by omega)]
  by_cases h4 : b0 < 240
  · rw [icehouseref02_Rune.j1, if_pos (decide_eq_true (by omega)), show wrap64 ((b0 : Int) - 224) = (b0 : Int) - 224 by unfold wrap64; omega]
    have := rj2 k s b1 b2 b3 e1 e2 e3 ((b0 : Int) - 224) 2048 (by omega) (by omega) 3 (.inr (.inl rfl))
    rw [show ((3 : Nat) : Int) = 3 from rfl] at this
    rw [this]
    unfold refN
    rw [if_neg (show ¬ (192 ≤ b0 ∧ b0 < 224) by omega), if_pos (show 224 ≤ b0 ∧ b0 < 240 by omega)]
    simp only [show ¬ (3 = 2) by decide, if_true, if_false]
    repeat' split
    all_goals first | rfl | (exfalso; omega)
  rw [icehouseref02_Rune.j1, if_neg (by simp; omega), if_pos (by omega)]
  by_cases h5 : b0 < 248
  · rw [if_pos (by omega), show wrap64 ((b0 : Int) - 240) = (b0 : Int) - 240 by unfold wrap64; omega]
    have := rj2 k s b1 b2 b3 e1 e2 e3 ((b0 : Int) - 240) 65536 (by omega) (by omega) 4 (.inr (.inr rfl))
    rw [show ((4 : Nat) : Int) = 4 from rfl] at this
    rw [this]
    unfold refN
    rw [if_neg (show ¬ (192 ≤ b0 ∧ b0 < 224) by omega), if_neg (show ¬ (224 ≤ b0 ∧ b0 < 240) by omega), if_pos (show 240 ≤ b0 ∧ b0 < 248 by omega)]
    simp only [show ¬ (4 = 2) by decide, show ¬ (4 = 3) by decide, if_false]
    repeat' split
    all_goals first | rfl | (exfalso; omega)
  · rw [if_neg (by omega)]
    rw [show refN s.size b0 b1 b2 b3 = none by unfold refN; rw [if_neg (by omega), if_neg (by omega), if_neg (by omega)]]
    rfl
theorem refN_le {n b0 b1 b2 b3 m : Nat} (h : refN n b0 b1 b2 b3 = some m) : 2 ≤ m ∧ m ≤ n := by
  unfold refN at h
  repeat' split at h
  all_goals first | (exfalso; cases h; done) | (cases h; omega)
theorem good_l0 (n : Nat) : ∀ (s : ByteArray), s.size ≤ n → icehouseref02_Good.l0 (n + 10) s = some (validD s.data.toList) := by
  induction n with
  | zero =>
    intro s h
    rw [icehouseref02_Good.l0, if_neg (by omega)]
    have : s.data.toList = [] := List.eq_nil_of_length_eq_zero (by rw [data_length]; omega)
    rw [this]
    rfl
  | succ n ih =>
    intro s h
    by_cases h0 : s.size = 0
    · rw [icehouseref02_Good.l0, if_neg (by omega)]
      have : s.data.toList = [] := List.eq_nil_of_length_eq_zero (by rw [data_length]; omega)
      rw [this]
      rfl
    have hne : s.data.toList ≠ [] := fun e => h0 (by rw [← data_length, e]; rfl)
    rw [icehouseref02_Good.l0, if_pos (by omega)]
    have hw := rune_width (n + 1) s (by omega) _ _ _ _ (bt_nat s 0).symm (bt_nat s 1).symm (bt_nat s 2).symm (bt_nat s 3).symm
    rw [show n + 1 + 9 = n + 10 by omega] at hw
    obtain ⟨⟨c, m⟩, hr, hm⟩ := Option.map_eq_some_iff.1 hw
    simp only at hm
    rw [hr]
    simp only [Option.bind_some]
    have next : ∀ j : Nat, 1 ≤ j → j ≤ s.size → icehouseref02_Good.l0 (n + 10) (s.extract ((j : Int)).toNat s.size) = some (validD (s.data.toList.drop j)) := by
      intro j h1 h2
      have e : (s.extract ((j : Int)).toNat s.size).data.toList = s.data.toList.drop j := by
        rw [Int.toNat_natCast]
        have hsz : s.size = s.data.toList.length := (data_length s).symm
        simp [ByteArray.data_extract, Array.toList_extract, List.extract_eq_take_drop]
        rw [List.take_of_length_le (by simp)]
      rw [← e]
      refine ih _ ?_
      rw [← data_length, e, List.length_drop, data_length]
      omega
    by_cases hb : (s.data.toList.getD 0 0).toNat < 128
    · rw [if_pos hb] at hm
      subst hm
      rw [if_neg (by decide), if_pos (by decide), if_pos (by omega)]
      have hn := next 1 (by omega) (by omega)
      rw [show ((1 : Nat) : Int) = 1 from rfl] at hn
      rw [hn]
      cases hd : s.data.toList with
      | nil => exact absurd hd hne
      | cons a t => rw [hd] at hb; rw [validD_cons a t (by simpa using hb)]; rfl
    · rw [if_neg hb] at hm
      rw [validD_ref _ hne (by omega), data_length]
      cases hR : refN s.size (s.data.toList.getD 0 0).toNat (s.data.toList.getD 1 0).toNat (s.data.toList.getD 2 0).toNat (s.data.toList.getD 3 0).toNat with
      | none =>
        rw [hR] at hm
        simp at hm
        subst hm
        rw [if_pos rfl]
      | some j =>
        have hj := refN_le hR
        rw [hR] at hm
        simp at hm
        subst hm
        rw [if_neg (by omega), if_pos (by omega), if_pos (by omega), next j (by omega) (by omega)]
theorem rgood_f (s : ByteArray) : icehouseref02_Good.f (s.size + 10) s = some (validD s.data.toList) := good_l0 s.size s (Nat.le_refl _)
end Go.Proofs.YtojocffjajcdmaaDoor
namespace Go.Proofs.YtojocffjajcdmaaDoor
open Go.RowKit Go.Proofs.YtojocffjajcdmaaDoorW.PrintWords Go.Proofs.YtojocffjajcdmaaDoorW.PrintLast Go.Proofs.YtojocffjajcdmaaDoorW.PrintMore PChunkAll
set_option linter.unusedVariables false
set_option linter.unusedSimpArgs false

theorem rvalue_f (s : ByteArray) : icehouseref02_Value.f (s.size + 10) s = some (valI s) := by
  unfold icehouseref02_Value.f valI
  by_cases h1 : 1 ≤ s.size
  · rw [if_pos (by omega)]
    by_cases h2 : s.size ≤ 128
    · rw [if_pos (by omega), rgood_f]
      simp [h1, h2]
    · rw [if_neg (by omega), decide_eq_false h2]
      simp
  · rw [if_neg (by omega), decide_eq_false h1]
    simp
theorem rvalue_any (s : ByteArray) (w : World) : Calls Tryd.prog 146 #[.string s] w (BoolBelow (valI s) w) :=
  (icehouseref02_Value.calls (s.size + 10) s _ w (rvalue_f s)).mono fun e w' h => ⟨h.1, h.2.below⟩

/-- Names that an int counts. -/
def SzOk (l : List S112) : Prop := ∀ k, k < l.length → (l.getD k z112).f0.size ≤ 9223372036854775807
set_option maxHeartbeats 2000000 in
theorem rright_any (A : Option Addr) (c : Nat) (l : List S112) (w : World) (hr : Kd.C k112 w A l.length l) (hsz : SzOk l) : Calls Tryd.prog 96 #[.slice A l.length c] w (BoolBelow (rightL l) w) := by
  have hmax := Kd.C_max hr
  have HR := Lib.hid hr
  have HSZ := Lib.hid hsz
  clear hr hsz
  go_enter Tryd.func96, Tryd.ntmps96
  go_wp2
  go_loopw [3] (fun v7 wr => RightRel l w v7 wr) (fun v7 _ => l.length - (intOf v7).toNat)
  case atStart => exact ⟨0, rfl, Nat.zero_le _, rfl, Below.refl _ _⟩
  case round =>
    obtain ⟨k, rfl, hk, heq, hb⟩ := hrel
    have HEQ := Lib.hid heq
    clear heq
    by_cases hlt : k < l.length
    · have hki : (k : Int) < (l.length : Int) := by omega
      obtain ⟨b, o, rfl, hx⟩ := labs_at HR.out (by omega)
      have c0 := pw_cell_below hb (hx k hlt).1
      have c1 := pw_cell_below hb (hx k hlt).2
      have HX := Lib.hid hx
      clear hx
      have HST : Hid (labsB none l = (labB (ahead l k) (l.getD k z112) && labsB (ahead l (k + 1)) (l.drop (k + 1)))) := Lib.hid (by rw [HEQ.out, labsB_at l k hlt])
      have HXW : Hid (∀ i, i < l.length → wr.cell? ⟨b, o + i * 2, none⟩ = some (.string (l.getD i z112).f0)) := Lib.hid (fun i hi => pw_cell_below hb (HX.out i hi).1)
      have hsx := HSZ.out k hlt
      generalize l.getD k z112 = x at *
      go_wp2_with fail
      have HBW := Lib.hid hb
      clear hb
      cases hn : nameI x.f0 with
      | false =>
        have HNM : Hid (∀ W', Calls Tryd.prog 145 #[.string x.f0] W' (BoolBelow false W')) := Lib.hid (fun W' => by have := (rname_any x.f0 hsx W').mono (fun e w' h => (⟨h.1, h.2.below⟩ : BoolBelow (nameI x.f0) W' e w')); rwa [hn] at this)
        have HF : Hid (rightL l = false) := Lib.hid (by unfold rightL; rw [HST.out, labB, hn]; simp)
        clear hn hsx
        have C0 := fun d os => cell_regrown c0 d os
        have C1 := fun d os => cell_regrown c1 d os
        have cN := fun d os => Calls.regrown_of (HNM.out (Go.Sort.grow (redrawn wr d) os))
        refine wp_region_quiet_below (by kernel_rfl) (by kernel_rfl) ?_
        repeat (first | go_big_quiet_step ((exact cN _ _)) | quiet_step ((exact cN _ _)))
        refine wpQuiet_nil ?_
        intro _ hw'
        obtain ⟨⟨dq, osq⟩, hw''⟩ := hw'
        subst hw''
        go_wp2
        go_ret
        exact ⟨by rw [HF.out]; rfl, HBW.out.trans ((below_regrown wr dq osq).mono HBW.out.size)⟩
      | true =>
        have HNM : Hid (∀ W', Calls Tryd.prog 145 #[.string x.f0] W' (BoolBelow true W')) := Lib.hid (fun W' => by have := (rname_any x.f0 hsx W').mono (fun e w' h => (⟨h.1, h.2.below⟩ : BoolBelow (nameI x.f0) W' e w')); rwa [hn] at this)
        have C0 := fun d os => cell_regrown c0 d os
        have C1 := fun d os => cell_regrown c1 d os
        have cN := fun d os => Calls.regrown_of (HNM.out (Go.Sort.grow (redrawn wr d) os))
        cases hv : valI x.f1 with
        | false =>
          have HVM : Hid (∀ W', Calls Tryd.prog 146 #[.string x.f1] W' (BoolBelow false W')) := Lib.hid (fun W' => by have := rvalue_any x.f1 W'; rwa [hv] at this)
          have cV := fun d os => Calls.regrown_of (HVM.out (Go.Sort.grow (redrawn wr d) os))
          have HF : Hid (rightL l = false) := Lib.hid (by unfold rightL; rw [HST.out, labB, hv]; simp)
          clear hn hv hsx
          refine wp_region_quiet_below (by kernel_rfl) (by kernel_rfl) ?_
          repeat (first | go_big_quiet_step ((first | exact cN _ _ | exact cV _ _)) | quiet_step ((first | exact cN _ _ | exact cV _ _)))
          refine wpQuiet_nil ?_
          intro _ hw'
          obtain ⟨⟨dq, osq⟩, hw''⟩ := hw'
          subst hw''
          go_wp2
          go_ret
          exact ⟨by rw [HF.out]; rfl, HBW.out.trans ((below_regrown wr dq osq).mono HBW.out.size)⟩
        | true =>
          have HVM : Hid (∀ W', Calls Tryd.prog 146 #[.string x.f1] W' (BoolBelow true W')) := Lib.hid (fun W' => by have := rvalue_any x.f1 W'; rwa [hv] at this)
          have cV := fun d os => Calls.regrown_of (HVM.out (Go.Sort.grow (redrawn wr d) os))
          have HLB : Hid (labB (ahead l k) x = risesB (ahead l k) x) := Lib.hid (by rw [labB, hn, hv]; simp)
          clear hn hv hsx
          by_cases hk0 : k = 0
          · have hkz : decide ((0 : Int) < (k : Int)) = false := decide_eq_false (by omega)
            have hkz2 : decide (0 < k) = false := decide_eq_false (by omega)
            have HN : Hid (labsB none l = labsB (ahead l (k + 1)) (l.drop (k + 1))) := Lib.hid (by rw [HST.out, HLB.out, hk0]; simp [ahead, risesB])
            clear hk0
            refine wp_region_quiet_below (by kernel_rfl) (by kernel_rfl) ?_
            repeat (first | go_big_quiet_step ((first | exact cN _ _ | exact cV _ _)) | quiet_step ((first | exact cN _ _ | exact cV _ _)))
            refine wpQuiet_nil ?_
            intro _ hw'
            obtain ⟨⟨dq, osq⟩, hw''⟩ := hw'
            subst hw''
            go_wp2_with fail
            go_roundw
            case rel => exact ⟨k + 1, by go_num, by omega, HN.out, HBW.out.trans ((below_regrown wr dq osq).mono HBW.out.size)⟩
            case measure => simp [intOf]; omega
          · obtain ⟨m, rfl⟩ : ∃ m, k = m + 1 := ⟨k - 1, by omega⟩
            have hcast : ((m + 1 : Nat) : Int) = (m : Int) + 1 := by omega
            have c2 := HXW.out m (by omega)
            have HRS : Hid (risesB (ahead l (m + 1)) x = Op.bytesLess (l.getD m z112).f0.toList x.f0.toList) := Lib.hid (by simp [ahead, risesB])
            generalize (l.getD m z112).f0 = q at *
            have C2 := fun d os => cell_regrown c2 d os
            have hkz : decide ((0 : Int) < (m : Int) + 1) = true := decide_eq_true (by omega)
            have hw1 : IntKind.i64.wrap ((m : Int) + 1 - 1) = (m : Int) := by rw [IntWalk.i64_in _ ⟨by omega, by omega⟩]; omega
            have hm0 : (0 : Int) ≤ (m : Int) := by omega
            have hml : (m : Int) < (l.length : Int) := by omega
            clear hk0 hki
            cases hle : Op.bytesLess q.toList x.f0.toList with
            | true =>
              have HN : Hid (labsB none l = labsB (ahead l (m + 1 + 1)) (l.drop (m + 1 + 1))) := Lib.hid (by rw [HST.out, HLB.out, HRS.out, hle]; simp)
              have hfl := bl_flip q.toList x.f0.toList
              rw [hle] at hfl
              have hA : Op.bytesLess x.f0.toList q.toList = false := by cases h : Op.bytesLess x.f0.toList q.toList <;> simp_all
              have hB : (x.f0.toList == q.toList) = false := by cases h : (x.f0.toList == q.toList) <;> simp_all
              clear hfl
              refine wp_region_quiet_below (by kernel_rfl) (by kernel_rfl) ?_
              repeat (first | go_big_quiet_step ((first | exact cN _ _ | exact cV _ _)) | quiet_step ((first | exact cN _ _ | exact cV _ _)))
              refine wpQuiet_nil ?_
              intro _ hw'
              obtain ⟨⟨dq, osq⟩, hw''⟩ := hw'
              subst hw''
              go_wp2_with fail
              go_roundw
              case rel => exact ⟨m + 1 + 1, by go_num, by omega, HN.out, HBW.out.trans ((below_regrown wr dq osq).mono HBW.out.size)⟩
              case measure => simp [intOf]; omega
            | false =>
              have HF : Hid (rightL l = false) := Lib.hid (by unfold rightL; rw [HST.out, HLB.out, HRS.out, hle]; simp)
              have hfl := bl_flip q.toList x.f0.toList
              rw [hle] at hfl
              cases hA : Op.bytesLess x.f0.toList q.toList
              · have hB : (x.f0.toList == q.toList) = true := by rw [hA] at hfl; simpa using hfl
                clear hfl
                refine wp_region_quiet_below (by kernel_rfl) (by kernel_rfl) ?_
                repeat (first | go_big_quiet_step ((first | exact cN _ _ | exact cV _ _)) | quiet_step ((first | exact cN _ _ | exact cV _ _)))
                refine wpQuiet_nil ?_
                intro _ hw'
                obtain ⟨⟨dq, osq⟩, hw''⟩ := hw'
                subst hw''
                go_wp2
                go_ret
                exact ⟨by rw [HF.out]; rfl, HBW.out.trans ((below_regrown wr dq osq).mono HBW.out.size)⟩
              · clear hfl
                refine wp_region_quiet_below (by kernel_rfl) (by kernel_rfl) ?_
                repeat (first | go_big_quiet_step ((first | exact cN _ _ | exact cV _ _)) | quiet_step ((first | exact cN _ _ | exact cV _ _)))
                refine wpQuiet_nil ?_
                intro _ hw'
                obtain ⟨⟨dq, osq⟩, hw''⟩ := hw'
                subst hw''
                go_wp2
                go_ret
                exact ⟨by rw [HF.out]; rfl, HBW.out.trans ((below_regrown wr dq osq).mono HBW.out.size)⟩
    · have HB := Lib.hid hb
      have HA : Hid (labsB none l = true) := Lib.hid (by rw [HEQ.out, List.drop_eq_nil_of_le (by omega)]; rfl)
      clear hb
      by_cases h1 : 1 ≤ l.length
      · have h1i : decide ((1 : Int) ≤ (l.length : Int)) = true := decide_eq_true (by omega)
        by_cases h2 : l.length ≤ 16
        · have h2i : decide ((l.length : Int) ≤ 16) = true := decide_eq_true (by omega)
          have HF : Hid (rightL l = true) := Lib.hid (by unfold rightL; rw [HA.out]; simp [h1, h2])
          go_wp2
          go_ret
          exact ⟨by rw [HF.out]; rfl, HB.out⟩
        · have h2i : decide ((l.length : Int) ≤ 16) = false := decide_eq_false (by omega)
          have HF : Hid (rightL l = false) := Lib.hid (by unfold rightL; rw [decide_eq_false h2]; simp)
          go_wp2
          go_ret
          exact ⟨by rw [HF.out]; rfl, HB.out⟩
      · have h1i : decide ((1 : Int) ≤ (l.length : Int)) = false := decide_eq_false (by omega)
        have HF : Hid (rightL l = false) := Lib.hid (by unfold rightL; rw [decide_eq_false h1]; simp)
        go_wp2
        go_ret
        exact ⟨by rw [HF.out]; rfl, HB.out⟩
end Go.Proofs.YtojocffjajcdmaaDoor
