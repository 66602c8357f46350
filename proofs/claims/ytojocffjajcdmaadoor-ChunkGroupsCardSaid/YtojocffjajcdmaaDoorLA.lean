import Derived.Test.YtojocffjajcdmaaDoorProg
import Derived.Shelf.Unicode.ValidAny
import Derived.Below
import Derived.Lib.ValidLaws
import Derived.Test.YtojocffjajcdmaaDoorVx4
import Derived.Laws.RangeAny
import Derived.Lib.OthersKept
import Derived.Lib.Hide
import Derived.WalkSpells
import Derived.WalkLawsBesides
import Derived.Deep.RegionHeld3
import Derived.Deep.QuietTactic
import Derived.BigQuiet
import Derived.Lib.QuietBelow
import Derived.Lib.Varint
import Derived.Deep.DeepFit
namespace Go.Proofs.YtojocffjajcdmaaDoor
open Go.Shelf Go.RowKit
def laysValid_ren : Go.Shelf.Ren := ⟨fun | 196 => 172 | 259 => 194 | n => n, fun | 9 => 9 | 4 => 4 | 3 => 3 | 5 => 5 | 12 => 12 | 119 => 234 | 0 => 0 | 46 => 200 | 139 => 237 | 138 => 236 | 53 => 199 | n => n, fun | 3 => 0 | 4 => 1 | n => n⟩
theorem laysValid : Lays.n196 Tryd.prog laysValid_ren :=
  { mixed := by kernel_rfl,
    f196 := Tryd.func172.trans (congrArg some (by kernel_rfl)),
    f259 := Tryd.func194.trans (congrArg some (by kernel_rfl)),
    t0 := Tryd.underlying0,
    a0 := Tryd.isAgg0,
    z0 := Tryd.sizeOf0,
    v0 := Tryd.zeroValue0,
    t3 := Tryd.underlying3,
    a3 := Tryd.isAgg3,
    z3 := Tryd.sizeOf3,
    v3 := Tryd.zeroValue3,
    t4 := Tryd.underlying4,
    a4 := Tryd.isAgg4,
    z4 := Tryd.sizeOf4,
    v4 := Tryd.zeroValue4,
    t5 := Tryd.underlying5,
    a5 := Tryd.isAgg5,
    z5 := Tryd.sizeOf5,
    v5 := Tryd.zeroValue5,
    t9 := Tryd.underlying9,
    a9 := Tryd.isAgg9,
    z9 := Tryd.sizeOf9,
    v9 := Tryd.zeroValue9,
    t12 := Tryd.underlying12,
    a12 := Tryd.isAgg12,
    z12 := Tryd.sizeOf12,
    v12 := Tryd.zeroValue12,
    t46 := Tryd.underlying200,
    a46 := Tryd.isAgg200,
    z46 := Tryd.sizeOf200,
    v46 := Tryd.zeroValue200,
    t53 := Tryd.underlying199,
    a53 := Tryd.isAgg199,
    z53 := Tryd.sizeOf199,
    v53 := Tryd.zeroValue199,
    t119 := Tryd.underlying234,
    a119 := Tryd.isAgg234,
    z119 := Tryd.sizeOf234,
    t138 := Tryd.underlying236,
    a138 := Tryd.isAgg236,
    z138 := Tryd.sizeOf236,
    v138 := Tryd.zeroValue236,
    t139 := Tryd.underlying237,
    a139 := Tryd.isAgg237,
    z139 := Tryd.sizeOf237,
    v139 := Tryd.zeroValue237,
    g3 := by kernel_rfl,
    g4 := by kernel_rfl }

/-- The two tables, as Go lays them. -/
def Tabs (w : World) : Prop := Lib.Utf8Tabs (laysValid_ren.g 3) (laysValid_ren.g 4) w
theorem valid_string (s : ByteArray) (w : World) (hs : s.size ≤ 9223372036854775807) (hT : Tabs w) :
    Calls Tryd.prog 172 #[.string s] w fun e w' => e = .returned (.bool (Lib.validD s.data.toList)) ∧ Below w.heap.size w w' :=
  Any.utf8_ValidString laysValid s w hs hT
end Go.Proofs.YtojocffjajcdmaaDoor
namespace Go.Proofs.YtojocffjajcdmaaDoor
open Go.Lib
/-- The width that the reference gives a rune; none: it is none. -/
def refN (n b0 b1 b2 b3 : Nat) : Option Nat :=
  if 192 ≤ b0 ∧ b0 < 224 then
    (if n < 2 ∨ b1 < 128 ∨ 192 ≤ b1 ∨ 64 * (b0 - 192) + b1 - 128 < 128 then none else some 2)
  else if 224 ≤ b0 ∧ b0 < 240 then
    (if n < 3 ∨ b1 < 128 ∨ 192 ≤ b1 ∨ b2 < 128 ∨ 192 ≤ b2 ∨ 64 * (64 * (b0 - 224) + b1 - 128) + b2 - 128 < 2048 ∨ (55296 ≤ 64 * (64 * (b0 - 224) + b1 - 128) + b2 - 128 ∧ 64 * (64 * (b0 - 224) + b1 - 128) + b2 - 128 < 57344) then none else some 3)
  else if 240 ≤ b0 ∧ b0 < 248 then
    (if n < 4 ∨ b1 < 128 ∨ 192 ≤ b1 ∨ b2 < 128 ∨ 192 ≤ b2 ∨ b3 < 128 ∨ 192 ≤ b3 ∨ 64 * (64 * (64 * (b0 - 240) + b1 - 128) + b2 - 128) + b3 - 128 < 65536 ∨ 1114111 < 64 * (64 * (64 * (b0 - 240) + b1 - 128) + b2 - 128) + b3 - 128 then none else some 4)
  else none
theorem chk2 (n b0 b1 b2 b3 lo hi : Nat) (h0 : 192 ≤ b0) (h1 : b0 < 224) (e : (n < 2 ∨ b1 < lo ∨ hi < b1) ↔ (n < 2 ∨ b1 < 128 ∨ 192 ≤ b1 ∨ 64 * (b0 - 192) + b1 - 128 < 128)) : checkN n b1 b2 b3 2 lo hi = refN n b0 b1 b2 b3 := by
  rw [show checkN n b1 b2 b3 2 lo hi = (if n < 2 ∨ b1 < lo ∨ hi < b1 then none else some 2) from rfl]
  unfold refN
  rw [if_pos (show 192 ≤ b0 ∧ b0 < 224 from ⟨h0, h1⟩)]
  split
  · rw [if_pos (e.1 ‹_›)]
  · rw [if_neg (fun h => ‹¬ _› (e.2 h))]
theorem chk3 (n b0 b1 b2 b3 lo hi : Nat) (h0 : 224 ≤ b0) (h1 : b0 < 240) (e : (n < 3 ∨ b1 < lo ∨ hi < b1 ∨ b2 < 128 ∨ 191 < b2) ↔ (n < 3 ∨ b1 < 128 ∨ 192 ≤ b1 ∨ b2 < 128 ∨ 192 ≤ b2 ∨ 64 * (64 * (b0 - 224) + b1 - 128) + b2 - 128 < 2048 ∨ (55296 ≤ 64 * (64 * (b0 - 224) + b1 - 128) + b2 - 128 ∧ 64 * (64 * (b0 - 224) + b1 - 128) + b2 - 128 < 57344))) : checkN n b1 b2 b3 3 lo hi = refN n b0 b1 b2 b3 := by
  rw [show checkN n b1 b2 b3 3 lo hi = (if n < 3 ∨ b1 < lo ∨ hi < b1 ∨ b2 < 128 ∨ 191 < b2 then none else some 3) from rfl]
  unfold refN
  rw [if_neg (show ¬ (192 ≤ b0 ∧ b0 < 224) by omega), if_pos (show 224 ≤ b0 ∧ b0 < 240 from ⟨h0, h1⟩)]
  split
  · rw [if_pos (e.1 ‹_›)]
  · rw [if_neg (fun h => ‹¬ _› (e.2 h))]
theorem chk4 (n b0 b1 b2 b3 lo hi : Nat) (h0 : 240 ≤ b0) (h1 : b0 < 248) (e : (n < 4 ∨ b1 < lo ∨ hi < b1 ∨ b2 < 128 ∨ 191 < b2 ∨ b3 < 128 ∨ 191 < b3) ↔ (n < 4 ∨ b1 < 128 ∨ 192 ≤ b1 ∨ b2 < 128 ∨ 192 ≤ b2 ∨ b3 < 128 ∨ 192 ≤ b3 ∨ 64 * (64 * (64 * (b0 - 240) + b1 - 128) + b2 - 128) + b3 - 128 < 65536 ∨ 1114111 < 64 * (64 * (64 * (b0 - 240) + b1 - 128) + b2 - 128) + b3 - 128)) : checkN n b1 b2 b3 4 lo hi = refN n b0 b1 b2 b3 := by
  rw [show checkN n b1 b2 b3 4 lo hi = (if n < 4 ∨ b1 < lo ∨ hi < b1 ∨ b2 < 128 ∨ 191 < b2 ∨ b3 < 128 ∨ 191 < b3 then none else some 4) from rfl]
  unfold refN
  rw [if_neg (show ¬ (192 ≤ b0 ∧ b0 < 224) by omega), if_neg (show ¬ (224 ≤ b0 ∧ b0 < 240) by omega), if_pos (show 240 ≤ b0 ∧ b0 < 248 from ⟨h0, h1⟩)]
  split
  · rw [if_pos (e.1 ‹_›)]
  · rw [if_neg (fun h => ‹¬ _› (e.2 h))]
theorem chk_bad (n b1 b2 b3 lo hi : Nat) : checkN n b1 b2 b3 1 lo hi = none := by unfold checkN; simp
theorem ref_bad (n b0 b1 b2 b3 : Nat) (h : (128 ≤ b0 ∧ b0 < 194) ∨ (245 ≤ b0 ∧ b0 < 256)) : refN n b0 b1 b2 b3 = none := by
  unfold refN
  by_cases h1 : 192 ≤ b0 ∧ b0 < 224
  · rw [if_pos h1, if_pos (by omega)]
  rw [if_neg h1]
  rw [if_neg (by omega)]
  by_cases h3 : 240 ≤ b0 ∧ b0 < 248
  · rw [if_pos h3, if_pos (by omega)]
  rw [if_neg h3]
theorem ref_check (n b0 b1 b2 b3 : Nat) (h0 : 128 ≤ b0) (h0' : b0 < 256) (h1 : b1 < 256) (h2 : b2 < 256) (h3 : b3 < 256) :
    checkN n b1 b2 b3 (firstT b0 % 8) (accLo (firstT b0 / 16)) (accHi (firstT b0 / 16)) = refN n b0 b1 b2 b3 := by
  have key : ∀ sz lo hi, firstT b0 % 8 = sz → accLo (firstT b0 / 16) = lo → accHi (firstT b0 / 16) = hi → checkN n b1 b2 b3 sz lo hi = refN n b0 b1 b2 b3 → checkN n b1 b2 b3 (firstT b0 % 8) (accLo (firstT b0 / 16)) (accHi (firstT b0 / 16)) = refN n b0 b1 b2 b3 := fun sz lo hi e1 e2 e3 h => by rw [e1, e2, e3, h]
  by_cases c0 : b0 < 194
  · exact key 1 0 0 (by simp [firstT, show ¬ b0 < 128 by omega, c0]) (by simp [firstT, accLo, show ¬ b0 < 128 by omega, c0]) (by simp [firstT, accHi, show ¬ b0 < 128 by omega, c0]) (by rw [chk_bad, ref_bad _ _ _ _ _ (.inl ⟨h0, c0⟩)])
  by_cases c1 : b0 < 224
  · exact key 2 128 191 (by simp [firstT, show ¬ b0 < 128 by omega, c0, c1]) (by simp [firstT, accLo, show ¬ b0 < 128 by omega, c0, c1]) (by simp [firstT, accHi, show ¬ b0 < 128 by omega, c0, c1]) (chk2 _ _ _ _ _ _ _ (by omega) (by omega) (by omega))
  by_cases c2 : b0 = 224
  · subst c2; exact key 3 160 191 (by decide) (by decide) (by decide) (chk3 _ _ _ _ _ _ _ (by omega) (by omega) (by omega))
  by_cases c3 : b0 < 237
  · exact key 3 128 191 (by simp [firstT, show ¬ b0 < 128 by omega, c0, c1, c2, c3]) (by simp [firstT, accLo, show ¬ b0 < 128 by omega, c0, c1, c2, c3]) (by simp [firstT, accHi, show ¬ b0 < 128 by omega, c0, c1, c2, c3]) (chk3 _ _ _ _ _ _ _ (by omega) (by omega) (by omega))
  by_cases c4 : b0 = 237
  · subst c4; exact key 3 128 159 (by decide) (by decide) (by decide) (chk3 _ _ _ _ _ _ _ (by omega) (by omega) (by omega))
  by_cases c5 : b0 < 240
  · exact key 3 128 191 (by simp [firstT, show ¬ b0 < 128 by omega, c0, c1, c2, c3, c4, c5]) (by simp [firstT, accLo, show ¬ b0 < 128 by omega, c0, c1, c2, c3, c4, c5]) (by simp [firstT, accHi, show ¬ b0 < 128 by omega, c0, c1, c2, c3, c4, c5]) (chk3 _ _ _ _ _ _ _ (by omega) (by omega) (by omega))
  by_cases c6 : b0 = 240
  · subst c6; exact key 4 144 191 (by decide) (by decide) (by decide) (chk4 _ _ _ _ _ _ _ (by omega) (by omega) (by omega))
  by_cases c7 : b0 < 244
  · exact key 4 128 191 (by simp [firstT, show ¬ b0 < 128 by omega, c0, c1, c2, c3, c4, c5, c6, c7]) (by simp [firstT, accLo, show ¬ b0 < 128 by omega, c0, c1, c2, c3, c4, c5, c6, c7]) (by simp [firstT, accHi, show ¬ b0 < 128 by omega, c0, c1, c2, c3, c4, c5, c6, c7]) (chk4 _ _ _ _ _ _ _ (by omega) (by omega) (by omega))
  by_cases c8 : b0 = 244
  · subst c8; exact key 4 128 143 (by decide) (by decide) (by decide) (chk4 _ _ _ _ _ _ _ (by omega) (by omega) (by omega))
  · exact key 1 0 0 (by simp [firstT, show ¬ b0 < 128 by omega, c0, c1, c2, c3, c4, c5, c6, c7, c8]) (by simp [firstT, accLo, show ¬ b0 < 128 by omega, c0, c1, c2, c3, c4, c5, c6, c7, c8]) (by simp [firstT, accHi, show ¬ b0 < 128 by omega, c0, c1, c2, c3, c4, c5, c6, c7, c8]) (by rw [chk_bad, ref_bad _ _ _ _ _ (.inr ⟨by omega, h0'⟩)])
theorem validD_ref (l : List UInt8) (hne : l ≠ []) (h0 : 128 ≤ (l.getD 0 0).toNat) :
    validD l = match refN l.length (l.getD 0 0).toNat (l.getD 1 0).toNat (l.getD 2 0).toNat (l.getD 3 0).toNat with
      | none => false
      | some k => validD (l.drop k) := by
  rw [validD_lead l hne h0, ref_check _ _ _ _ _ h0 (l.getD 0 0).toNat_lt (l.getD 1 0).toNat_lt (l.getD 2 0).toNat_lt (l.getD 3 0).toNat_lt]
  cases refN l.length (l.getD 0 0).toNat (l.getD 1 0).toNat (l.getD 2 0).toNat (l.getD 3 0).toNat <;> rfl
end Go.Proofs.YtojocffjajcdmaaDoor
namespace Go.Proofs.YtojocffjajcdmaaDoor
open Go.RowKit Go.Proofs.YtojocffjajcdmaaDoorW.PrintWords Go.Proofs.YtojocffjajcdmaaDoorW.PrintLast Go.Proofs.YtojocffjajcdmaaDoorW.PrintMore PChunkAll
set_option linter.unusedVariables false
set_option linter.unusedSimpArgs false

/-- A letter, a digit. -/
def isLet (c : Int) : Bool := (label_letter.f c).getD false
def isDig (c : Int) : Bool := (label_digit.f c).getD false
theorem letter_some (c : Int) : label_letter.f c = some (isLet c) := by
  unfold isLet label_letter.f
  repeat' split
  all_goals rfl
theorem digit_some (c : Int) : label_digit.f c = some (isDig c) := by
  unfold isDig label_digit.f
  split <;> rfl
theorem isLet_iff (c : Int) : isLet c = true ↔ (97 ≤ c ∧ c ≤ 122) ∨ (65 ≤ c ∧ c ≤ 90) ∨ c = 95 := by
  unfold isLet label_letter.f
  repeat' split
  all_goals simp
  all_goals omega
theorem isDig_iff (c : Int) : isDig c = true ↔ 48 ≤ c ∧ c ≤ 57 := by
  unfold isDig label_digit.f
  split <;> simp <;> omega
theorem letter_any (c : Int) (w : World) : Calls Tryd.prog 170 #[.int .i32 c] w fun e w' => e = .returned (.bool (isLet c)) ∧ ∃ n, w' = w.drewN n :=
  (label_letter.calls c _ w (letter_some c)).mono fun e w' h => ⟨h.1, h.2.out⟩
theorem digit_any (c : Int) (w : World) : Calls Tryd.prog 171 #[.int .i32 c] w fun e w' => e = .returned (.bool (isDig c)) ∧ ∃ n, w' = w.drewN n :=
  (label_digit.calls c _ w (digit_some c)).mono fun e w' h => ⟨h.1, h.2.out⟩

/-- May a byte stand in a name, at its beginning or behind? -/
def nameB : Nat → List UInt8 → Bool
  | _, [] => true
  | i, c :: l => (isLet c.toNat || (decide (0 < i) && isDig c.toNat)) && nameB (i + 1) l
def nameI (s : ByteArray) : Bool := nameB 0 s.data.toList && (decide (1 ≤ s.size) && decide (s.size ≤ 64))
theorem drop_at (s : ByteArray) (k : Nat) (h : k < s.size) : s.data.toList.drop k = s[k] :: s.data.toList.drop (k + 1) := by
  rw [List.drop_eq_getElem_cons (by rw [data_length]; exact h)]
  rfl
theorem nameB_cons (i : Nat) (c : UInt8) (l : List UInt8) : nameB i (c :: l) = ((isLet c.toNat || (decide (0 < i) && isDig c.toNat)) && nameB (i + 1) l) := rfl
theorem drewN_pos (w : World) (n k : Nat) : (w.drewN n).iterPos k = w.iterPos k := rfl

def NameRel (s : ByteArray) (w : World) (wr : World) : Prop :=
  ∃ k : Nat, k ≤ s.size ∧ wr.heap[w.heap.size]? = some (.stringIter s k) ∧ nameB 0 s.data.toList = nameB k (s.data.toList.drop k) ∧ Below w.heap.size w wr
def BoolBelow (b : Bool) (w : World) (e : Ending) (w' : World) : Prop := e = .returned (.bool b) ∧ Below w.heap.size w w'

set_option maxHeartbeats 1000000 in
theorem name_any (s : ByteArray) (w : World) : Calls Tryd.prog 143 #[.string s] w (BoolBelow (nameI s) w) := by
  have hit := World.iter_heap w s 0
  have hb0 : Below w.heap.size w (w.iter s 0) := (Below.refl _ w).alloc (Nat.le_refl _) _
  go_enter Tryd.func143, Tryd.ntmps143
  go_wp2
  go_loopw [3] (fun _ wr => NameRel s w wr) (fun _ wr => s.size - wr.iterPos w.heap.size)
  case atStart => exact ⟨0, Nat.zero_le _, hit, by simp, hb0⟩
  case round =>
    obtain ⟨k, hk, hkk, heq, hb⟩ := hrel
    clear hit hb0
    have HEQ := Lib.hid heq
    clear heq
    have hmu : wr.iterPos w.heap.size = k := by simp [World.iterPos, hkk]
    have HMU := Lib.hid hmu
    clear hmu
    by_cases hp : k < s.size
    · have HDR := Lib.hid (drop_at s k hp)
      by_cases ha : (s[k]'hp).toNat < 128
      · have hnext : ∀ ty, (Instr.next (.pointer (some ⟨w.heap.size, 0, none⟩)) true ty).run Tryd.prog wr = _ := fun ty => Lib.run_next_ascii_at wr w.heap.size s k ty hkk hp ha
        have hk1 := Lib.iterAt_heap wr w.heap.size s k (k + 1) hkk
        have hb1 : Below w.heap.size w (wr.iterAt w.heap.size s (k + 1)) := Lib.below_iterAt hb (Nat.le_refl _) s (k + 1)
        have HSTEP : Hid (nameB 0 s.data.toList = ((isLet (s[k]'hp).toNat || (decide (0 < k) && isDig (s[k]'hp).toNat)) && nameB (k + 1) (s.data.toList.drop (k + 1)))) := Lib.hid (by rw [HEQ.out, HDR.out, nameB_cons])
        have HK1 := Lib.hid hk1
        have HB1 := Lib.hid hb1
        clear hk1 hb1 hkk hb
        generalize wr.iterAt w.heap.size s (k + 1) = W1 at *
        generalize (s[k]'hp).toNat = cn at *
        cases hl : isLet (cn : Int) with
        | true =>
          have HL := Lib.hid (letter_any (cn : Int) W1)
          rw [hl] at HL
          have HN : Hid (nameB 0 s.data.toList = nameB (k + 1) (s.data.toList.drop (k + 1))) := Lib.hid (by rw [HSTEP.out, hl]; simp)
          clear hl
          go_wp2_with (go_at_call 170; refine (HL.out).mono ?_; rintro e w2 ⟨rfl, n, rfl⟩)
          go_roundw
          case rel => exact ⟨k + 1, by omega, HK1.out, HN.out, pw_below_drewN HB1.out n⟩
          case measure =>
            have h2 : (W1.drewN n).iterPos w.heap.size = k + 1 := by rw [drewN_pos]; simp [World.iterPos, HK1.out]
            rw [HMU.out, h2]; omega
        | false =>
          have HL := Lib.hid (letter_any (cn : Int) W1)
          rw [hl] at HL
          by_cases hk0 : k = 0
          · have hkz : ((k : Int) == 0) = true := by simpa using hk0
            have HN : Hid (nameI s = false) := Lib.hid (by unfold nameI; rw [HSTEP.out, hl, hk0]; simp)
            clear hl hk0
            go_wp2_with (go_at_call 170; refine (HL.out).mono ?_; rintro e w2 ⟨rfl, n, rfl⟩)
            go_ret
            exact ⟨by rw [HN.out]; rfl, pw_below_drewN HB1.out n⟩
          · have hkz : ((k : Int) == 0) = false := by simpa using hk0
            cases hd : isDig (cn : Int) with
            | true =>
              have HG := Lib.hid (fun n => digit_any (cn : Int) (W1.drewN n))
              rw [hd] at HG
              have HN : Hid (nameB 0 s.data.toList = nameB (k + 1) (s.data.toList.drop (k + 1))) := Lib.hid (by rw [HSTEP.out, hl, hd, decide_eq_true (show 0 < k by omega)]; simp)
              clear hl hd hk0
              go_wp2_with (first | (go_at_call 170; refine (HL.out).mono ?_; rintro e w2 ⟨rfl, n, rfl⟩) | (go_at_call 171; refine (HG.out _).mono ?_; rintro e w2 ⟨rfl, m, rfl⟩))
              go_roundw
              case rel => exact ⟨k + 1, by omega, HK1.out, HN.out, pw_below_drewN HB1.out _⟩
              case measure =>
                have h2 : (W1.drewN (n + m)).iterPos w.heap.size = k + 1 := by rw [drewN_pos]; simp [World.iterPos, HK1.out]
                rw [HMU.out, h2]; omega
            | false =>
              have HG := Lib.hid (fun n => digit_any (cn : Int) (W1.drewN n))
              rw [hd] at HG
              have HN : Hid (nameI s = false) := Lib.hid (by unfold nameI; rw [HSTEP.out, hl, hd]; simp)
              clear hl hd hk0
              go_wp2_with (first | (go_at_call 170; refine (HL.out).mono ?_; rintro e w2 ⟨rfl, n, rfl⟩) | (go_at_call 171; refine (HG.out _).mono ?_; rintro e w2 ⟨rfl, m, rfl⟩))
              go_ret
              exact ⟨by rw [HN.out]; rfl, pw_below_drewN HB1.out _⟩
      · have hnext : ∀ ty, (Instr.next (.pointer (some ⟨w.heap.size, 0, none⟩)) true ty).run Tryd.prog wr = _ := fun ty => Lib.run_next_any_at wr w.heap.size s k ty hkk hp
        have hhi := (decode_high s k hp (by omega)).1
        have hb1 : Below w.heap.size w (wr.iterAt w.heap.size s (k + (Utf8.decode s k).2)) := Lib.below_iterAt hb (Nat.le_refl _) s _
        have HN : Hid (nameI s = false) := Lib.hid (by
          have h1 : isLet ((s[k]'hp).toNat : Int) = false := by
            rw [Bool.eq_false_iff, Ne, isLet_iff]; omega
          have h2 : isDig ((s[k]'hp).toNat : Int) = false := by
            rw [Bool.eq_false_iff, Ne, isDig_iff]; omega
          unfold nameI
          rw [HEQ.out, HDR.out, nameB_cons, h1, h2]; simp)
        have HB1 := Lib.hid hb1
        generalize wr.iterAt w.heap.size s (k + (Utf8.decode s k).2) = W1 at *
        generalize (Utf8.decode s k).1 = r at *
        have hl : isLet (r : Int) = false := by rw [Bool.eq_false_iff, Ne, isLet_iff]; omega
        have hd : isDig (r : Int) = false := by rw [Bool.eq_false_iff, Ne, isDig_iff]; omega
        have HL := Lib.hid (letter_any (r : Int) W1)
        rw [hl] at HL
        have HG := Lib.hid (fun n => digit_any (r : Int) (W1.drewN n))
        rw [hd] at HG
        clear hl hd hhi ha hb1 hkk hb
        by_cases hk0 : k = 0
        · have hkz : ((k : Int) == 0) = true := by simpa using hk0
          clear hk0
          go_wp2_with (first | (go_at_call 170; refine (HL.out).mono ?_; rintro e w2 ⟨rfl, n, rfl⟩) | (go_at_call 171; refine (HG.out _).mono ?_; rintro e w2 ⟨rfl, m, rfl⟩))
          go_ret
          exact ⟨by rw [HN.out]; rfl, pw_below_drewN HB1.out n⟩
        · have hkz : ((k : Int) == 0) = false := by simpa using hk0
          clear hk0
          go_wp2_with (first | (go_at_call 170; refine (HL.out).mono ?_; rintro e w2 ⟨rfl, n, rfl⟩) | (go_at_call 171; refine (HG.out _).mono ?_; rintro e w2 ⟨rfl, m, rfl⟩))
          go_ret
          exact ⟨by rw [HN.out]; rfl, pw_below_drewN HB1.out _⟩
    · have hnext : ∀ ty, (Instr.next (.pointer (some ⟨w.heap.size, 0, none⟩)) true ty).run Tryd.prog wr = _ := fun ty => Lib.run_next_end_at wr w.heap.size s k ty hkk hp
      have HB1 := Lib.hid hb
      have HT : Hid (nameB 0 s.data.toList = true) := Lib.hid (by rw [HEQ.out, List.drop_eq_nil_of_le (by rw [data_length]; omega)]; rfl)
      clear hb
      by_cases h1 : 1 ≤ s.size
      · have h1i : decide ((1 : Int) ≤ (s.size : Int)) = true := decide_eq_true (by omega)
        by_cases h2 : s.size ≤ 64
        · have HN : Hid (nameI s = true) := Lib.hid (by unfold nameI; rw [HT.out]; simp [h1, h2])
          have h2i : decide ((s.size : Int) ≤ 64) = true := decide_eq_true (by omega)
          go_wp2
          go_ret
          exact ⟨by rw [HN.out]; rfl, HB1.out⟩
        · have HN : Hid (nameI s = false) := Lib.hid (by unfold nameI; rw [decide_eq_false h2]; simp)
          have h2i : decide ((s.size : Int) ≤ 64) = false := decide_eq_false (by omega)
          go_wp2
          go_ret
          exact ⟨by rw [HN.out]; rfl, HB1.out⟩
      · have h1i : decide ((1 : Int) ≤ (s.size : Int)) = false := decide_eq_false (by omega)
        have HN : Hid (nameI s = false) := Lib.hid (by unfold nameI; rw [decide_eq_false h1]; simp)
        go_wp2
        go_ret
        exact ⟨by rw [HN.out]; rfl, HB1.out⟩
end Go.Proofs.YtojocffjajcdmaaDoor
namespace Go.Proofs.YtojocffjajcdmaaDoor
open Go.RowKit Go.Proofs.YtojocffjajcdmaaDoorW.PrintWords Go.Proofs.YtojocffjajcdmaaDoorW.PrintLast Go.Proofs.YtojocffjajcdmaaDoorW.PrintMore PChunkAll
set_option linter.unusedVariables false
set_option linter.unusedSimpArgs false

theorem Tabs.below {w w' : World} (h : Tabs w) (hb : Below w.heap.size w w') : Tabs w' :=
  ⟨fun c hc => pw_cell_below hb (h.1 c hc), fun i hi => ⟨pw_cell_below hb (h.2 i hi).1, pw_cell_below hb (h.2 i hi).2⟩⟩
def valI (s : ByteArray) : Bool := (decide (1 ≤ s.size) && decide (s.size ≤ 128)) && Lib.validD s.data.toList

set_option maxHeartbeats 1000000 in
theorem value_any (s : ByteArray) (w : World) (hT : Tabs w) : Calls Tryd.prog 144 #[.string s] w (BoolBelow (valI s) w) := by
  by_cases h1 : 1 ≤ s.size
  · have h1i : decide ((1 : Int) ≤ (s.size : Int)) = true := decide_eq_true (by omega)
    by_cases h2 : s.size ≤ 128
    · have h2i : decide ((s.size : Int) ≤ 128) = true := decide_eq_true (by omega)
      have HV := Lib.hid (valid_string s w (by omega) hT)
      have HN : Hid (valI s = Lib.validD s.data.toList) := Lib.hid (by unfold valI; simp [h1, h2])
      rw [HN.out]
      generalize Lib.validD s.data.toList = vd at *
      go_enter Tryd.func144, Tryd.ntmps144
      go_wp2_with (go_at_call 172; refine (HV.out).mono ?_; rintro e w2 ⟨rfl, hb⟩)
      go_ret
      exact ⟨rfl, hb⟩
    · have h2i : decide ((s.size : Int) ≤ 128) = false := decide_eq_false (by omega)
      have HN : Hid (valI s = false) := Lib.hid (by unfold valI; rw [decide_eq_false h2]; simp)
      go_enter Tryd.func144, Tryd.ntmps144
      go_wp2
      go_ret
      exact ⟨by rw [HN.out]; rfl, Below.refl _ _⟩
  · have h1i : decide ((1 : Int) ≤ (s.size : Int)) = false := decide_eq_false (by omega)
    have HN : Hid (valI s = false) := Lib.hid (by unfold valI; rw [decide_eq_false h1]; simp)
    go_enter Tryd.func144, Tryd.ntmps144
    go_wp2
    go_ret
    exact ⟨by rw [HN.out]; rfl, Below.refl _ _⟩

theorem spot_none {w : World} {a : Addr} {v : Value} (h : w.cell? a = some v) : a = ⟨a.block, a.off, none⟩ := by
  obtain ⟨b, o, e⟩ := a
  cases e with
  | none => rfl
  | some x =>
    exfalso
    unfold World.cell? at h
    split at h <;> simp at h
theorem addr_add (b o j : Nat) : (⟨b, o, none⟩ : Addr).add j = ⟨b, o + j, none⟩ := by unfold Addr.add; split <;> simp_all
/-- Where labels lie. -/
theorem labs_at {w : World} {A : Option Addr} {l : List S112} (h : Kd.C k112 w A l.length l) (hp : 0 < l.length) : ∃ b o, A = some ⟨b, o, none⟩ ∧ ∀ i, i < l.length → w.cell? ⟨b, o + i * 2, none⟩ = some (.string (l.getD i z112).f0) ∧ w.cell? ⟨b, o + i * 2 + 1, none⟩ = some (.string (l.getD i z112).f1) := by
  obtain ⟨ad, e, h0, _⟩ := at_T112 h 0 (by omega) (by omega)
  have hsp := spot_none (a := ad) (by have h1 : ad.add ((0 : Int).toNat * 2) = ad := by { show ad.add 0 = ad; rfl }; rw [h1] at h0; exact h0)
  refine ⟨ad.block, ad.off, by rw [← hsp]; exact e, fun i hi => ?_⟩
  obtain ⟨ad', e', h0', h1'⟩ := at_T112 h (i : Int) (by omega) (by omega)
  rw [e] at e'
  injection e' with e'
  subst e'
  rw [hsp] at h0' h1'
  rw [addr_add] at h0' h1'
  exact ⟨h0', h1'⟩
/-- Labels that rise: p is the name ahead. -/
def risesB (p : Option ByteArray) (x : S112) : Bool := match p with
  | none => true
  | some q => Op.bytesLess q.toList x.f0.toList
def labB (p : Option ByteArray) (x : S112) : Bool := (nameI x.f0 && valI x.f1) && risesB p x
def labsB : Option ByteArray → List S112 → Bool
  | _, [] => true
  | p, x :: l => labB p x && labsB (some x.f0) l
def rightL (l : List S112) : Bool := labsB none l && (decide (1 ≤ l.length) && decide (l.length ≤ 16))
def ahead (l : List S112) (k : Nat) : Option ByteArray := if k = 0 then none else some (l.getD (k - 1) z112).f0
theorem labsB_at (l : List S112) (k : Nat) (h : k < l.length) : labsB (ahead l k) (l.drop k) = (labB (ahead l k) (l.getD k z112) && labsB (ahead l (k + 1)) (l.drop (k + 1))) := by
  rw [List.drop_eq_getElem_cons h, labsB]
  have e : l.getD k z112 = l[k] := by simp [h]
  have e2 : ahead l (k + 1) = some l[k].f0 := by simp [ahead, h]
  rw [e, e2]
theorem bl_flip : ∀ (x y : List UInt8), (Op.bytesLess y x || y == x) = !Op.bytesLess x y
  | [], [] => by simp [Op.bytesLess]
  | [], b :: y => by simp [Op.bytesLess]
  | a :: x, [] => by simp [Op.bytesLess]
  | a :: x, b :: y => by
    have ih := bl_flip x y
    rcases Nat.lt_trichotomy a.toNat b.toNat with h | h | h
    · have h1 : a < b := UInt8.lt_iff_toNat_lt.2 h
      have h2 : ¬ b < a := fun e => by have := UInt8.lt_iff_toNat_lt.1 e; omega
      have h3 : ¬ b = a := fun e => by rw [e] at h; omega
      simp [Op.bytesLess, h1, h2, h3]
    · have h0 : a = b := UInt8.toNat_inj.1 h
      subst h0
      have h1 : ¬ a < a := fun e => by have := UInt8.lt_iff_toNat_lt.1 e; omega
      simp [Op.bytesLess, h1]
      simpa using ih
    · have h1 : b < a := UInt8.lt_iff_toNat_lt.2 h
      have h2 : ¬ a < b := fun e => by have := UInt8.lt_iff_toNat_lt.1 e; omega
      have h3 : ¬ a = b := fun e => by rw [e] at h; omega
      simp [Op.bytesLess, h1, h2, h3]
theorem two_at (w : World) (a b : Value) (t i : Nat) (v : Value) (h : (#[a, b] : Array Value)[i]? = some v) : (w.alloc (.cells #[a, b] t)).cell? ⟨w.heap.size, i, none⟩ = some v := by
  rw [blk_cell (heap_alloc_new w _)]; exact h
def RightRel (l : List S112) (w : World) (v7 : Value) (wr : World) : Prop :=
  ∃ k : Nat, v7 = .int .i64 k ∧ k ≤ l.length ∧ labsB none l = labsB (ahead l k) (l.drop k) ∧ Below w.heap.size w wr

set_option maxHeartbeats 2000000 in
theorem right_any (A : Option Addr) (c : Nat) (l : List S112) (w : World) (hT : Tabs w) (hr : Kd.C k112 w A l.length l) : Calls Tryd.prog 95 #[.slice A l.length c] w (BoolBelow (rightL l) w) := by
  have hmax := Kd.C_max hr
  have HR := Lib.hid hr
  have HT := Lib.hid hT
  clear hr hT
  go_enter Tryd.func95, Tryd.ntmps95
  go_wp2
  go_loopw [7] (fun v7 wr => RightRel l w v7 wr) (fun v7 _ => l.length - (intOf v7).toNat)
  case atStart => exact ⟨0, rfl, Nat.zero_le _, rfl, Below.refl _ _⟩
  case round =>
    obtain ⟨k, rfl, hk, heq, hb⟩ := hrel
    have HEQ := Lib.hid heq
    clear heq
    by_cases hlt : k < l.length
    · have hki : (k : Int) < (l.length : Int) := by omega
      obtain ⟨b, o, rfl, hx⟩ := labs_at HR.out (by omega)
      have hx0 := pw_cell_below hb (hx k hlt).1
      have hx1 := pw_cell_below hb (hx k hlt).2
      have HX := Lib.hid hx
      clear hx
      generalize hxe : l.getD k z112 = x at *
      go_wp2_with fail
      obtain ⟨W, hW⟩ : ∃ W, W = wr.alloc (.cells #[.string x.f0, .string x.f1] 112) := ⟨_, rfl⟩
      rw [← hW]
      have c0 : W.cell? ⟨wr.heap.size, 0, none⟩ = some (.string x.f0) := by rw [hW]; exact two_at wr _ _ 112 0 _ rfl
      have c1 : W.cell? ⟨wr.heap.size, 1, none⟩ = some (.string x.f1) := by rw [hW]; exact two_at wr _ _ 112 1 _ rfl
      have hbW : Below w.heap.size w W := by rw [hW]; exact below_alloc hb _
      have HXW : Hid (∀ i, i < l.length → W.cell? ⟨b, o + i * 2, none⟩ = some (.string (l.getD i z112).f0)) := Lib.hid (fun i hi => by
        rw [hW]; exact pw_cell_below (below_alloc (Below.refl _ _) _) (pw_cell_below hb (HX.out i hi).1))
      have HTW := Lib.hid (HT.out.below hbW)
      have HST : Hid (labsB none l = (labB (ahead l k) x && labsB (ahead l (k + 1)) (l.drop (k + 1)))) := Lib.hid (by rw [HEQ.out, labsB_at l k hlt, hxe])
      obtain ⟨gb, hgb⟩ : ∃ g, g = wr.heap.size := ⟨_, rfl⟩
      rw [← hgb] at c0 c1 ⊢
      clear hx0 hx1 hxe hW hgb hb
      cases hn : nameI x.f0 with
      | false =>
        have HNM : Hid (∀ W', Calls Tryd.prog 143 #[.string x.f0] W' (BoolBelow false W')) := Lib.hid (fun W' => by have := name_any x.f0 W'; rwa [hn] at this)
        have HF : Hid (rightL l = false) := Lib.hid (by unfold rightL; rw [HST.out, labB, hn]; simp)
        clear hn
        have C0 := fun d os => cell_regrown c0 d os
        have C1 := fun d os => cell_regrown c1 d os
        have cN := fun d os => Calls.regrown_of (HNM.out (Go.Sort.grow (redrawn W d) os))
        refine wp_region_quiet_below (by kernel_rfl) (by kernel_rfl) ?_
        repeat (first | go_big_quiet_step ((exact cN _ _)) | quiet_step ((exact cN _ _)))
        refine wpQuiet_nil ?_
        intro _ hw'
        obtain ⟨⟨dq, osq⟩, hw''⟩ := hw'
        subst hw''
        go_wp2
        go_ret
        exact ⟨by rw [HF.out]; rfl, hbW.trans ((below_regrown W dq osq).mono hbW.size)⟩
      | true =>
        have HNM : Hid (∀ W', Calls Tryd.prog 143 #[.string x.f0] W' (BoolBelow true W')) := Lib.hid (fun W' => by have := name_any x.f0 W'; rwa [hn] at this)
        have C0 := fun d os => cell_regrown c0 d os
        have C1 := fun d os => cell_regrown c1 d os
        have cN := fun d os => Calls.regrown_of (HNM.out (Go.Sort.grow (redrawn W d) os))
        cases hv : valI x.f1 with
        | false =>
          have HVM : Hid (∀ W', Tabs W' → Calls Tryd.prog 144 #[.string x.f1] W' (BoolBelow false W')) := Lib.hid (fun W' h => by have := value_any x.f1 W' h; rwa [hv] at this)
          have cV := fun d os => Calls.regrown_of (HVM.out (Go.Sort.grow (redrawn W d) os) (HTW.out.below (below_regrown W d os)))
          have HF : Hid (rightL l = false) := Lib.hid (by unfold rightL; rw [HST.out, labB, hv]; simp)
          clear hn hv
          refine wp_region_quiet_below (by kernel_rfl) (by kernel_rfl) ?_
          repeat (first | go_big_quiet_step ((first | exact cN _ _ | exact cV _ _)) | quiet_step ((first | exact cN _ _ | exact cV _ _)))
          refine wpQuiet_nil ?_
          intro _ hw'
          obtain ⟨⟨dq, osq⟩, hw''⟩ := hw'
          subst hw''
          go_wp2
          go_ret
          exact ⟨by rw [HF.out]; rfl, hbW.trans ((below_regrown W dq osq).mono hbW.size)⟩
        | true =>
          have HVM : Hid (∀ W', Tabs W' → Calls Tryd.prog 144 #[.string x.f1] W' (BoolBelow true W')) := Lib.hid (fun W' h => by have := value_any x.f1 W' h; rwa [hv] at this)
          have cV := fun d os => Calls.regrown_of (HVM.out (Go.Sort.grow (redrawn W d) os) (HTW.out.below (below_regrown W d os)))
          have HLB : Hid (labB (ahead l k) x = risesB (ahead l k) x) := Lib.hid (by rw [labB, hn, hv]; simp)
          clear hn hv
          by_cases hk0 : k = 0
          · have hkz : decide ((0 : Int) < (k : Int)) = false := decide_eq_false (by omega)
            have hkz2 : decide (0 < k) = false := decide_eq_false (by omega)
            have HN : Hid (labsB none l = labsB (ahead l (k + 1)) (l.drop (k + 1))) := Lib.hid (by rw [HST.out, HLB.out, hk0]; simp [ahead, risesB])
            clear hk0
            refine wp_region_quiet_below (by kernel_rfl) (by kernel_rfl) ?_
            repeat (first | go_big_quiet_step ((first | exact cN _ _ | exact cV _ _)) | quiet_step ((first | exact cN _ _ | exact cV _ _)))
            refine wpQuiet_nil ?_
            intro _ hw'
            obtain ⟨⟨dq, osq⟩, hw''⟩ := hw'
            subst hw''
            go_wp2_with fail
            go_roundw
            case rel => exact ⟨k + 1, by go_num, by omega, HN.out, hbW.trans ((below_regrown W dq osq).mono hbW.size)⟩
            case measure => simp [intOf]; omega
          · obtain ⟨m, rfl⟩ : ∃ m, k = m + 1 := ⟨k - 1, by omega⟩
            have hcast : ((m + 1 : Nat) : Int) = (m : Int) + 1 := by omega
            have c2 := HXW.out m (by omega)
            have HRS : Hid (risesB (ahead l (m + 1)) x = Op.bytesLess (l.getD m z112).f0.toList x.f0.toList) := Lib.hid (by simp [ahead, risesB])
            generalize (l.getD m z112).f0 = q at *
            have C2 := fun d os => cell_regrown c2 d os
            have hkz : decide ((0 : Int) < (m : Int) + 1) = true := decide_eq_true (by omega)
            have hw1 : IntKind.i64.wrap ((m : Int) + 1 - 1) = (m : Int) := by rw [IntWalk.i64_in _ ⟨by omega, by omega⟩]; omega
            have hm0 : (0 : Int) ≤ (m : Int) := by omega
            have hml : (m : Int) < (l.length : Int) := by omega
            clear hk0 hki
            rw [hcast]
            clear hcast
            cases hle : Op.bytesLess q.toList x.f0.toList with
            | true =>
              have HN : Hid (labsB none l = labsB (ahead l (m + 1 + 1)) (l.drop (m + 1 + 1))) := Lib.hid (by rw [HST.out, HLB.out, HRS.out, hle]; simp)
              have hfl := bl_flip q.toList x.f0.toList
              rw [hle] at hfl
              have hA : Op.bytesLess x.f0.toList q.toList = false := by cases h : Op.bytesLess x.f0.toList q.toList <;> simp_all
              have hB : (x.f0.toList == q.toList) = false := by cases h : (x.f0.toList == q.toList) <;> simp_all
              clear hfl
              refine wp_region_quiet_below (by kernel_rfl) (by kernel_rfl) ?_
              repeat (first | go_big_quiet_step ((first | exact cN _ _ | exact cV _ _)) | quiet_step ((first | exact cN _ _ | exact cV _ _)))
              refine wpQuiet_nil ?_
              intro _ hw'
              obtain ⟨⟨dq, osq⟩, hw''⟩ := hw'
              subst hw''
              go_wp2_with fail
              go_roundw
              case rel => exact ⟨m + 1 + 1, by go_num, by omega, HN.out, hbW.trans ((below_regrown W dq osq).mono hbW.size)⟩
              case measure => simp [intOf]; omega
            | false =>
              have HF : Hid (rightL l = false) := Lib.hid (by unfold rightL; rw [HST.out, HLB.out, HRS.out, hle]; simp)
              have hfl := bl_flip q.toList x.f0.toList
              rw [hle] at hfl
              cases hA : Op.bytesLess x.f0.toList q.toList
              · have hB : (x.f0.toList == q.toList) = true := by rw [hA] at hfl; simpa using hfl
                clear hfl
                refine wp_region_quiet_below (by kernel_rfl) (by kernel_rfl) ?_
                repeat (first | go_big_quiet_step ((first | exact cN _ _ | exact cV _ _)) | quiet_step ((first | exact cN _ _ | exact cV _ _)))
                refine wpQuiet_nil ?_
                intro _ hw'
                obtain ⟨⟨dq, osq⟩, hw''⟩ := hw'
                subst hw''
                go_wp2
                go_ret
                exact ⟨by rw [HF.out]; rfl, hbW.trans ((below_regrown W dq osq).mono hbW.size)⟩
              · clear hfl
                refine wp_region_quiet_below (by kernel_rfl) (by kernel_rfl) ?_
                repeat (first | go_big_quiet_step ((first | exact cN _ _ | exact cV _ _)) | quiet_step ((first | exact cN _ _ | exact cV _ _)))
                refine wpQuiet_nil ?_
                intro _ hw'
                obtain ⟨⟨dq, osq⟩, hw''⟩ := hw'
                subst hw''
                go_wp2
                go_ret
                exact ⟨by rw [HF.out]; rfl, hbW.trans ((below_regrown W dq osq).mono hbW.size)⟩
    · have HB := Lib.hid hb
      have HA : Hid (labsB none l = true) := Lib.hid (by rw [HEQ.out, List.drop_eq_nil_of_le (by omega)]; rfl)
      clear hb
      by_cases h1 : 1 ≤ l.length
      · have h1i : decide ((1 : Int) ≤ (l.length : Int)) = true := decide_eq_true (by omega)
        by_cases h2 : l.length ≤ 16
        · have h2i : decide ((l.length : Int) ≤ 16) = true := decide_eq_true (by omega)
          have HF : Hid (rightL l = true) := Lib.hid (by unfold rightL; rw [HA.out]; simp [h1, h2])
          go_wp2
          go_ret
          exact ⟨by rw [HF.out]; rfl, HB.out⟩
        · have h2i : decide ((l.length : Int) ≤ 16) = false := decide_eq_false (by omega)
          have HF : Hid (rightL l = false) := Lib.hid (by unfold rightL; rw [decide_eq_false h2]; simp)
          go_wp2
          go_ret
          exact ⟨by rw [HF.out]; rfl, HB.out⟩
      · have h1i : decide ((1 : Int) ≤ (l.length : Int)) = false := decide_eq_false (by omega)
        have HF : Hid (rightL l = false) := Lib.hid (by unfold rightL; rw [decide_eq_false h1]; simp)
        go_wp2
        go_ret
        exact ⟨by rw [HF.out]; rfl, HB.out⟩
end Go.Proofs.YtojocffjajcdmaaDoor
namespace Go.Proofs.YtojocffjajcdmaaDoor
open Go.RowKit Go.Proofs.YtojocffjajcdmaaDoorW.PrintWords Go.Proofs.YtojocffjajcdmaaDoorW.PrintLast Go.Proofs.YtojocffjajcdmaaDoorW.PrintMore PChunkAll
set_option linter.unusedVariables false
set_option linter.unusedSimpArgs false

/-- May an entry be? -/
def rightE (x : S33) : Bool := (decide (1 ≤ x.f0) && (decide (x.f0 < 1099511627776) && (decide (0 ≤ x.f1) && decide (x.f1 < 1099511627776)))) && (rightL x.f2 && decide (x.f3.size ≤ 1024))
abbrev entA (x : S33) (A : Option Addr) (c : Nat) : Value := .agg #[.int .i64 x.f0, .int .i64 x.f1, .slice A x.f2.length c, .string x.f3]
abbrev entC (x : S33) (A : Option Addr) (c : Nat) : Array Value := #[.int .i64 x.f0, .int .i64 x.f1, .slice A x.f2.length c, .string x.f3]

set_option maxHeartbeats 1000000 in
theorem rightE_any (x : S33) (A : Option Addr) (c : Nat) (w : World) (hT : Tabs w) (hr : Kd.C k112 w A x.f2.length x.f2) : Calls Tryd.prog 29 #[entA x A c] w (BoolBelow (rightE x) w) := by
  have hb0 : Below w.heap.size w (w.alloc (.cells (entC x A c) 33)) := below_alloc (Below.refl _ _) _
  have HRL := Lib.hid (right_any A c x.f2 _ (hT.below hb0) (Kd.C_alloc hr (.cells (entC x A c) 33)))
  have c3 : (w.alloc (.cells (entC x A c) 33)).cell? ⟨w.heap.size, 3, none⟩ = some (.string x.f3) := by rw [blk_cell (heap_alloc_new w _)]; rfl
  have HE : Hid (rightE x = ((decide (1 ≤ x.f0) && (decide (x.f0 < 1099511627776) && (decide (0 ≤ x.f1) && decide (x.f1 < 1099511627776)))) && (rightL x.f2 && decide (x.f3.size ≤ 1024)))) := Lib.hid rfl
  clear hT hr
  by_cases h1 : 1 ≤ x.f0
  · have e1 : decide (1 ≤ x.f0) = true := decide_eq_true h1
    by_cases h2 : x.f0 < 1099511627776
    · have e2 : decide (x.f0 < 1099511627776) = true := decide_eq_true h2
      by_cases h3 : 0 ≤ x.f1
      · have e3 : decide (0 ≤ x.f1) = true := decide_eq_true h3
        by_cases h4 : x.f1 < 1099511627776
        · have e4 : decide (x.f1 < 1099511627776) = true := decide_eq_true h4
          cases h5 : rightL x.f2 with
          | true =>
            rw [h5] at HRL
            by_cases h6 : x.f3.size ≤ 1024
            · have e6 : decide ((x.f3.size : Int) ≤ 1024) = true := decide_eq_true (by omega)
              have HF : Hid (rightE x = true) := Lib.hid (by rw [HE.out, e1, e2, e3, e4, h5, decide_eq_true h6]; rfl)
              clear h5 HE
              go_enter Tryd.func29, Tryd.ntmps29
              go_wp2_with (go_at_call 95; refine (HRL.out).mono ?_; rintro e w2 ⟨rfl, hb⟩; have hc := pw_cell_below hb c3)
              go_ret
              exact ⟨by rw [HF.out]; rfl, below_then hb0 hb0.size hb⟩
            · have e6 : decide ((x.f3.size : Int) ≤ 1024) = false := decide_eq_false (by omega)
              have HF : Hid (rightE x = false) := Lib.hid (by rw [HE.out, decide_eq_false h6]; simp)
              clear h5 HE
              go_enter Tryd.func29, Tryd.ntmps29
              go_wp2_with (go_at_call 95; refine (HRL.out).mono ?_; rintro e w2 ⟨rfl, hb⟩; have hc := pw_cell_below hb c3)
              go_ret
              exact ⟨by rw [HF.out]; rfl, below_then hb0 hb0.size hb⟩
          | false =>
            rw [h5] at HRL
            have HF : Hid (rightE x = false) := Lib.hid (by rw [HE.out, h5]; simp)
            clear h5 HE
            go_enter Tryd.func29, Tryd.ntmps29
            go_wp2_with (go_at_call 95; refine (HRL.out).mono ?_; rintro e w2 ⟨rfl, hb⟩)
            go_ret
            exact ⟨by rw [HF.out]; rfl, below_then hb0 hb0.size hb⟩
        · have e4 : decide (x.f1 < 1099511627776) = false := decide_eq_false h4
          have HF : Hid (rightE x = false) := Lib.hid (by rw [HE.out, e4]; simp)
          clear HE
          go_enter Tryd.func29, Tryd.ntmps29
          go_wp2
          go_ret
          exact ⟨by rw [HF.out]; rfl, hb0⟩
      · have e3 : decide (0 ≤ x.f1) = false := decide_eq_false h3
        have HF : Hid (rightE x = false) := Lib.hid (by rw [HE.out, e3]; simp)
        clear HE
        go_enter Tryd.func29, Tryd.ntmps29
        go_wp2
        go_ret
        exact ⟨by rw [HF.out]; rfl, hb0⟩
    · have e2 : decide (x.f0 < 1099511627776) = false := decide_eq_false h2
      have HF : Hid (rightE x = false) := Lib.hid (by rw [HE.out, e2]; simp)
      clear HE
      go_enter Tryd.func29, Tryd.ntmps29
      go_wp2
      go_ret
      exact ⟨by rw [HF.out]; rfl, hb0⟩
  · have e1 : decide (1 ≤ x.f0) = false := decide_eq_false h1
    have HF : Hid (rightE x = false) := Lib.hid (by rw [HE.out, e1]; simp)
    clear HE
    go_enter Tryd.func29, Tryd.ntmps29
    go_wp2
    go_ret
    exact ⟨by rw [HF.out]; rfl, hb0⟩
end Go.Proofs.YtojocffjajcdmaaDoor
namespace Go.Proofs.YtojocffjajcdmaaDoor
open Go.RowKit Go.Proofs.YtojocffjajcdmaaDoorW.PrintWords Go.Proofs.YtojocffjajcdmaaDoorW.PrintLast Go.Proofs.YtojocffjajcdmaaDoorW.PrintMore PChunkAll
set_option linter.unusedVariables false
set_option linter.unusedSimpArgs false

abbrev KB := Kd.int .u8
/-- Bytes of one's own, made since base. -/
abbrev OwnB (w : World) (base : Nat) (v : Value) (bs : List Int) : Prop := Kd.R KB 5 w base (fun _ => True) v bs
def BytesBelow (bs : List Int) (w : World) (e : Ending) (w' : World) : Prop := ∃ v, e = .returned v ∧ OwnB w' w.heap.size v bs ∧ Below w.heap.size w w'
abbrev KBs := Kd.slice 5 KB

set_option maxHeartbeats 2000000 in
theorem grow_any (n : Nat) (w : World) (hn : n ≤ 1099511627776) : Calls Tryd.prog 135 #[.slice none 0 0, .int .i64 (n : Int)] w (BytesBelow [] w) := by
  have hn0 : decide ((n : Int) < 0) = false := decide_eq_false (by omega)
  rcases Nat.eq_zero_or_pos n with h0 | h0
  · have hz : decide ((0 : Int) < (n : Int)) = false := decide_eq_false (by omega)
    go_enter Tryd.func135, Tryd.ntmps135
    go_wp2
    go_ret
    exact ⟨_, rfl, Kd.R_nil _ _ _ _ _, Below.refl _ _⟩
  · have hz : decide ((0 : Int) < (n : Int)) = true := decide_eq_true (by omega)
    have hw : IntKind.i64.wrap (n : Int) = (n : Int) := by rw [IntWalk.i64_in _ ⟨by omega, by omega⟩]
    obtain ⟨i5, hi5, _, hsz5, _⟩ := info_parts info5
    go_enter Tryd.func135, Tryd.ntmps135
    go_wp2_with ((with_reducible refine gate_builtin (b := .append) (xs := #[.tmp 20, .tmp 21]) rfl ?_); at_builtin; refine Kd.R_append_zeros KB (w0 := w) w.heap.size rfl (.tmp 20) (.tmp 21) 23 3 5 (.int .u8 0) 1 rfl Tryd.underlying23 (k := .i64) Tryd.underlying3 info5 rfl (by decide) (by omega) (.slice none 0 0) [] 0 (kx := .i64) (n : Int) (fun _ => True) rfl rfl (by exact rfl) (fun _ _ => trivial) (Kd.R_nil _ _ _ _ _) (by omega) (Below.refl _ _) (Nat.le_refl _) (by simp; omega) ?_; intro v1 w1 ho hb hg hat; obtain ⟨A1, c1, rfl⟩ := Kd.R_slice ho; have hcut := cut_to (P := Tryd.prog) 23 5 .i64 Tryd.underlying23 hi5 A1 ([] ++ List.replicate (n : Int).toNat (0 : Int)).length c1 0 (by omega) (by omega) (Kd.R_reads' ho).2.1)
    go_ret
    exact ⟨_, rfl, Kd.R_take ho (Nat.zero_le _), hb⟩

def upT (xss : List (List Int)) (k : Nat) : List Int := (xss.take k).flatten
theorem upT_succ (xss : List (List Int)) (k : Nat) (h : k < xss.length) : upT xss (k + 1) = upT xss k ++ rd_L8 xss (k : Int) := by
  unfold upT rd_L8
  rw [Int.toNat_natCast, List.take_succ_eq_append_getElem h, List.flatten_append]
  simp [h]
theorem upT_le (xss : List (List Int)) (k : Nat) : (upT xss k).length ≤ xss.flatten.length := by
  have h : xss.flatten = upT xss k ++ (xss.drop k).flatten := by unfold upT; rw [← List.flatten_append, List.take_append_drop]
  rw [h, List.length_append]
  omega
theorem upT_all (xss : List (List Int)) (k : Nat) (h : ¬ k < xss.length) : upT xss k = xss.flatten := by unfold upT; rw [List.take_of_length_le (by omega)]
def Cat1 (xss : List (List Int)) (w : World) (v3 v11 : Value) (wr : World) : Prop :=
  ∃ k : Nat, v3 = .int .i64 ((upT xss k).length : Int) ∧ v11 = .int .i64 (k : Int) ∧ k ≤ xss.length ∧ Below w.heap.size w wr
def Cat2 (xss : List (List Int)) (w : World) (v6 v27 : Value) (wr : World) : Prop :=
  ∃ k : Nat, OwnB wr w.heap.size v6 (upT xss k) ∧ v27 = .int .i64 (k : Int) ∧ k ≤ xss.length ∧ Below w.heap.size w wr

set_option maxHeartbeats 4000000 in
theorem concat_any (A : Option Addr) (c : Nat) (xss : List (List Int)) (w : World) (hr : Kd.C KBs w A xss.length xss) (hsz : xss.flatten.length ≤ 1099511627776) : Calls Tryd.prog 83 #[.slice A xss.length c] w (BytesBelow xss.flatten w) := by
  have hmax := Kd.C_max hr
  have HR := Lib.hid hr
  clear hr
  go_enter Tryd.func83, Tryd.ntmps83
  go_wp2
  go_loopw [3, 11] (fun v3 v11 wr => Cat1 xss w v3 v11 wr) (fun _ v11 _ => xss.length - (intOf v11).toNat)
  case atStart => exact ⟨0, rfl, rfl, Nat.zero_le _, Below.refl _ _⟩
  case round =>
    obtain ⟨k, rfl, rfl, hk, hb⟩ := hrel
    have HBB := Lib.hid hb
    by_cases hlt : k < xss.length
    · have hki : (k : Int) < (xss.length : Int) := by omega
      obtain ⟨ad, A0, c0, hAd, hcell, hcc, hrow⟩ := at_L8 HR.out (k : Int) (by omega) hki
      subst hAd
      have hcw := pw_cell_below hb hcell
      have HN := Lib.hid (upT_succ xss k hlt)
      have HL := upT_le xss (k + 1)
      rw [HN.out, List.length_append] at HL
      have HNL : Hid ((upT xss (k + 1)).length = (upT xss k).length + (rd_L8 xss (k : Int)).length) := Lib.hid (by rw [HN.out, List.length_append])
      clear HN hrow hcell hb
      generalize hS : (upT xss k).length = S at *
      generalize hx : rd_L8 xss (k : Int) = x at *
      have hw1 : IntKind.i64.wrap ((S : Int) + (x.length : Int)) = (S : Int) + (x.length : Int) := by rw [IntWalk.i64_in _ ⟨by omega, by omega⟩]
      have hn0 : decide ((S : Int) + (x.length : Int) < 0) = false := decide_eq_false (by omega)
      rw [Int.toNat_natCast] at hcw
      go_wp2
      go_roundw
      case rel => exact ⟨k + 1, by rw [HNL.out]; simp, by go_num, by omega, HBB.out⟩
      case measure => simp [intOf]; omega
    · have hki : ¬ (k : Int) < (xss.length : Int) := by omega
      have hkE : k = xss.length := by omega
      have HAll := Lib.hid (upT_all xss k hlt)
      rw [HAll.out]
      clear hlt
      have HG := Lib.hid (grow_any xss.flatten.length wr hsz)
      generalize hT : xss.flatten = T at *
      have HSZ := Lib.hid hsz
      clear hsz
      go_wp2_with (go_at_call 135; refine (HG.out).mono ?_; rintro e w2 ⟨v1, rfl, ho, hb2⟩; have HO := Lib.hid (Kd.R_lower ho (below_size HBB.out)); have HB2 := Lib.hid (below_step HBB.out hb2); clear ho hb2)
      go_loopw [6, 27] (fun v6 v27 wr => Cat2 xss w v6 v27 wr) (fun _ v27 _ => xss.length - (intOf v27).toNat)
      case atStart => exact ⟨0, HO.out, rfl, Nat.zero_le _, HB2.out⟩
      case round =>
        obtain ⟨j, ho, rfl, hj, hb3⟩ := hrel
        have HO3 := Lib.hid ho
        have HB3 := Lib.hid hb3
        by_cases hlt : j < xss.length
        · have hji : (j : Int) < (xss.length : Int) := by omega
          obtain ⟨ad, A0, c0, hAd, hcell, hcc, hrow⟩ := at_L8 HR.out (j : Int) (by omega) hji
          subst hAd
          have hcw := pw_cell_below hb3 hcell
          have HN := Lib.hid (upT_succ xss j hlt)
          have HL := upT_le xss (j + 1)
          rw [hT, HN.out, List.length_append] at HL
          have HRow := Lib.hid (Kd.C_below hrow hb3)
          have HLS := HSZ.out
          clear hcell hb3 ho hrow
          rw [Int.toNat_natCast] at hcw
          have HLL : Hid ((upT xss j).length + (rd_L8 xss (j : Int)).length ≤ 1099511627776) := Lib.hid (by omega)
          clear HL HLS
          generalize rd_L8 xss (j : Int) = x at *
          generalize upT xss j = Y at *
          go_wp2_with ((with_reducible refine gate_builtin (b := .append) (xs := #[.tmp 31, .tmp 32]) rfl ?_); at_builtin; refine Kd.R_append_row (Value.int .u8) 0 (w0 := w) w.heap.size rfl (.tmp 31) (.tmp 32) 23 5 (.int .u8 0) 1 rfl Tryd.underlying23 info5 rfl (by omega) u6 Y x A0 x.length c0 (fun _ => True) rfl rfl (fun _ _ => trivial) HO3.out HRow.out HB3.out (below_size HB3.out) (by have := HLL.out; omega) ?_; intro v4 w4 ho4 hb4 hg4 hat4; have HO4 := Lib.hid ho4; have HB4 := Lib.hid hb4; clear ho4 hb4 hg4 hat4)
          go_roundw
          case rel => exact ⟨j + 1, by rw [HN.out]; exact HO4.out, by go_num, by omega, HB4.out⟩
          case measure => simp [intOf]; omega
        · have hji : ¬ (j : Int) < (xss.length : Int) := by omega
          have HE := upT_all xss j hlt
          rw [hT] at HE
          go_wp2
          go_ret
          exact ⟨_, rfl, by rw [← HE]; exact HO3.out, HB3.out⟩
end Go.Proofs.YtojocffjajcdmaaDoor
namespace Go.Proofs.YtojocffjajcdmaaDoor
open Go.RowKit Go.Proofs.YtojocffjajcdmaaDoorW.PrintWords Go.Proofs.YtojocffjajcdmaaDoorW.PrintLast Go.Proofs.YtojocffjajcdmaaDoorW.PrintMore PChunkAll
set_option linter.unusedVariables false
set_option linter.unusedSimpArgs false

/-! ### Bytes in plain words -/
/-- A number in sevens, the low ones first. -/
def num7 (n : Nat) : List Int := if h : 127 < n then ((n % 128 + 128 : Nat) : Int) :: num7 (n / 128) else [(n : Int)]
termination_by n
decreasing_by omega
theorem num7_big (n : Nat) (h : 127 < n) : num7 n = ((n % 128 + 128 : Nat) : Int) :: num7 (n / 128) := by rw [num7, dif_pos h]
theorem num7_small (n : Nat) (h : ¬ 127 < n) : num7 n = [(n : Int)] := by rw [num7, dif_neg h]
theorem num7_len (n : Nat) (k : Nat) (h : n < 128 ^ (k + 1)) : 1 ≤ (num7 n).length ∧ (num7 n).length ≤ k + 1 := by
  induction k generalizing n with
  | zero => rw [num7_small n (by simp at h; omega)]; simp
  | succ k ih =>
    by_cases hn : 127 < n
    · have := ih (n / 128) (by rw [Nat.div_lt_iff_lt_mul (by decide)]; rw [Nat.pow_succ] at h; exact h)
      rw [num7_big n hn, List.length_cons]
      omega
    · rw [num7_small n hn]; simp
theorem seven_l0 (k : Nat) (n : Nat) (acc : List Int) (h : n < 128 ^ (k + 1)) (ha : acc.length + k < 140737488355328) : codec_seven_int.l0 (k + 1) (n : Int) acc = some (acc ++ num7 n) := by
  induction k generalizing n acc with
  | zero =>
    have hn : ¬ 127 < n := by simp at h; omega
    rw [num7_small n hn, codec_seven_int.l0, if_neg (by omega), if_pos (by omega)]
    rw [show (n : Int) % 256 = (n : Int) by omega]
  | succ k ih =>
    rw [codec_seven_int.l0]
    by_cases hn : 127 < n
    · rw [if_pos (by omega), if_pos (by omega), Lib.u8_or128_any _ (by omega) (by omega)]
      rw [show (n : Int) / 128 = ((n / 128 : Nat) : Int) by omega, ih (n / 128) _ (by rw [Nat.div_lt_iff_lt_mul (by decide)]; rw [Nat.pow_succ] at h; exact h) (by simp; omega), num7_big n hn]
      rw [show (n : Int) % 256 % 128 + 128 = ((n % 128 + 128 : Nat) : Int) by omega]
      simp
    · rw [if_neg (by omega), if_pos (by omega), num7_small n hn]
      rw [show (n : Int) % 256 = (n : Int) by omega]
def text7 (s : ByteArray) : List Int := num7 s.size ++ bytesOf s
def TupBelow (bs : List Int) (c : Int) (w : World) (e : Ending) (w' : World) : Prop := ∃ v, e = .returned (.tuple #[v, .int .i64 c]) ∧ OwnB w' w.heap.size v bs ∧ Below w.heap.size w w'
theorem number_any (n : Nat) (w : World) (h : n < 72057594037927936) : Calls Tryd.prog 78 #[.int .i64 (n : Int)] w (TupBelow (num7 n) 0 w) :=
  codec_Number.calls 9 (n : Int) (num7 n) 0 w (by
    unfold codec_Number.f codec_seven_int.f
    rw [if_neg (by omega), if_neg (by omega), seven_l0 8 n [] (by omega) (by simp)]
    rfl)
theorem text_any (s : ByteArray) (w : World) (h : s.size ≤ 65536) : Calls Tryd.prog 80 #[.string s] w (TupBelow (text7 s) 0 w) :=
  codec_Text.calls 9 s (text7 s) 0 w (by
    have hl := num7_len s.size 8 (by omega)
    unfold codec_Text.f codec_seven_int.f
    rw [if_neg (by omega), seven_l0 8 s.size [] (by omega) (by simp)]
    simp only [Option.bind_some, List.nil_append]
    rw [if_pos (by omega)]
    rfl)
theorem text7_len (s : ByteArray) (h : s.size ≤ 65536) : s.size + 1 ≤ (text7 s).length ∧ (text7 s).length ≤ s.size + 3 := by
  have hl := num7_len s.size 2 (by omega)
  unfold text7
  rw [List.length_append, bytesOf_length]
  omega

/-! ### Rows of bytes -/
def Lies (w : World) (v : Value) (bs : List Int) : Prop := ∃ A c, v = .slice A bs.length c ∧ bs.length ≤ c ∧ Kd.C KB w A bs.length bs
theorem OwnB.lies {w : World} {b : Nat} {v : Value} {bs : List Int} (h : OwnB w b v bs) : Lies w v bs := by
  obtain ⟨A, c, rfl⟩ := Kd.R_slice h
  exact ⟨A, c, rfl, (Kd.R_reads' h).2.1, (Kd.R_reads' h).2.2⟩
theorem Lies.below {w w' : World} {v : Value} {bs : List Int} (h : Lies w v bs) (hb : Below w.heap.size w w') : Lies w' v bs := by
  obtain ⟨A, c, e, h1, h2⟩ := h
  exact ⟨A, c, e, h1, Kd.C_below h2 hb⟩
theorem rows_at (w : World) (vs : List Value) (xss : List (List Int)) (t : TypeId) (hl : xss.length = vs.length) (hm : xss.length ≤ 1000) (h : ∀ (i : Nat) (v : Value) (x : List Int), vs[i]? = some v → xss[i]? = some x → Lies w v x) : Kd.C KBs (w.alloc (.cells vs.toArray t)) (some ⟨w.heap.size, 0, none⟩) xss.length xss := by
  refine ⟨rfl, by omega, fun _ => ⟨_, rfl, fun j p hj => ?_⟩⟩
  have hjl : j < xss.length := (List.getElem?_eq_some_iff.1 hj).1
  have hv : vs[j]? = some vs[j] := List.getElem?_eq_getElem (by omega)
  have hL := (h j _ p hv hj).below (below_alloc (Below.refl w.heap.size w) (.cells vs.toArray t))
  obtain ⟨A, c, e, h1, h2⟩ := hL
  refine ⟨[vs[j]], rfl, ⟨A, c, by rw [e], h1, h2⟩, fun i u hu => ?_⟩
  have hi : i = 0 := by
    have := (List.getElem?_eq_some_iff.1 hu).1
    simp at this
    exact this
  subst hi
  simp only [List.getElem?_cons_zero, Option.some.injEq] at hu
  subst hu
  rw [addr_add, blk_cell (heap_alloc_new w _)]
  have e1 : 0 + (j * 1 + 0) = j := by omega
  show vs.toArray[0 + (j * KBs.sz + 0)]? = _
  rw [show (KBs.sz) = 1 from rfl, e1]
  simp
theorem rows3 {w : World} {a b c : Value} {x y z : List Int} (t : TypeId) (ha : Lies w a x) (hb : Lies w b y) (hc : Lies w c z) : Kd.C KBs (w.alloc (.cells #[a, b, c] t)) (some ⟨w.heap.size, 0, none⟩) [x, y, z].length [x, y, z] := by
  refine rows_at w [a, b, c] [x, y, z] t rfl (by simp) (fun i v p hv hp => ?_)
  match i with
  | 0 => simp at hv hp; subst hv hp; exact ha
  | 1 => simp at hv hp; subst hv hp; exact hb
  | 2 => simp at hv hp; subst hv hp; exact hc
  | n + 3 => simp at hv
theorem rows4 {w : World} {a b c d : Value} {x y z u : List Int} (t : TypeId) (ha : Lies w a x) (hb : Lies w b y) (hc : Lies w c z) (hd : Lies w d u) : Kd.C KBs (w.alloc (.cells #[a, b, c, d] t)) (some ⟨w.heap.size, 0, none⟩) [x, y, z, u].length [x, y, z, u] := by
  refine rows_at w [a, b, c, d] [x, y, z, u] t rfl (by simp) (fun i v p hv hp => ?_)
  match i with
  | 0 => simp at hv hp; subst hv hp; exact ha
  | 1 => simp at hv hp; subst hv hp; exact hb
  | 2 => simp at hv hp; subst hv hp; exact hc
  | 3 => simp at hv hp; subst hv hp; exact hd
  | n + 4 => simp at hv
end Go.Proofs.YtojocffjajcdmaaDoor
namespace Go.Proofs.YtojocffjajcdmaaDoor
open Go.RowKit Go.Proofs.YtojocffjajcdmaaDoorW.PrintWords Go.Proofs.YtojocffjajcdmaaDoorW.PrintLast Go.Proofs.YtojocffjajcdmaaDoorW.PrintMore PChunkAll
set_option linter.unusedVariables false
set_option linter.unusedSimpArgs false

def lab7 (x : S112) : List Int := text7 x.f0 ++ text7 x.f1
def labs7 (l : List S112) (k : Nat) : List Int := num7 l.length ++ (l.take k).flatMap lab7
def bytesL (l : List S112) : List Int := num7 l.length ++ l.flatMap lab7
theorem labs7_succ (l : List S112) (k : Nat) (h : k < l.length) : labs7 l (k + 1) = [labs7 l k, text7 (l.getD k z112).f0, text7 (l.getD k z112).f1].flatten := by
  unfold labs7
  rw [List.take_succ_eq_append_getElem h, List.flatMap_append]
  simp [lab7, h]
theorem labs7_all (l : List S112) (k : Nat) (h : ¬ k < l.length) : labs7 l k = bytesL l := by unfold labs7 bytesL; rw [List.take_of_length_le (by omega)]
theorem nameI_size {s : ByteArray} (h : nameI s = true) : s.size ≤ 64 := by
  unfold nameI at h
  simp only [Bool.and_eq_true, decide_eq_true_eq] at h
  omega
theorem valI_size {s : ByteArray} (h : valI s = true) : s.size ≤ 128 := by
  unfold valI at h
  simp only [Bool.and_eq_true, decide_eq_true_eq] at h
  omega
theorem labsB_get (p : Option ByteArray) (l : List S112) (h : labsB p l = true) (k : Nat) (hk : k < l.length) : nameI (l.getD k z112).f0 = true ∧ valI (l.getD k z112).f1 = true := by
  induction l generalizing p k with
  | nil => simp at hk
  | cons x l ih =>
    rw [labsB, labB] at h
    simp only [Bool.and_eq_true] at h
    cases k with
    | zero => exact ⟨h.1.1.1, h.1.1.2⟩
    | succ k => exact ih _ h.2 k (by simp at hk; omega)
theorem rightL_get {l : List S112} (h : rightL l = true) : l.length ≤ 16 ∧ 1 ≤ l.length ∧ ∀ k, k < l.length → (l.getD k z112).f0.size ≤ 64 ∧ (l.getD k z112).f1.size ≤ 128 := by
  unfold rightL at h
  simp only [Bool.and_eq_true, decide_eq_true_eq] at h
  exact ⟨h.2.2, h.2.1, fun k hk => ⟨nameI_size (labsB_get none l h.1 k hk).1, valI_size (labsB_get none l h.1 k hk).2⟩⟩
theorem labs7_len {l : List S112} (h : rightL l = true) (k : Nat) (hk : k ≤ l.length) : (labs7 l k).length ≤ 1 + k * 198 ∧ 1 ≤ (labs7 l k).length := by
  obtain ⟨h1, h2, h3⟩ := rightL_get h
  induction k with
  | zero =>
    have := num7_len l.length 0 (by simp; omega)
    simp [labs7]; omega
  | succ k ih =>
    have := h3 k (by omega)
    have ih := ih (by omega)
    have ha := text7_len (l.getD k z112).f0 (by omega)
    have hb := text7_len (l.getD k z112).f1 (by omega)
    rw [labs7_succ l k (by omega)]
    simp only [List.flatten_cons, List.flatten_nil, List.length_append, List.length_nil]
    omega
def LabRel (l : List S112) (w : World) (v4 v23 : Value) (wr : World) : Prop :=
  ∃ k : Nat, OwnB wr w.heap.size v4 (labs7 l k) ∧ v23 = .int .i64 (k : Int) ∧ k ≤ l.length ∧ Below w.heap.size w wr

set_option maxHeartbeats 4000000 in
theorem bytesL_any (A : Option Addr) (c : Nat) (l : List S112) (w : World) (hT : Tabs w) (hr : Kd.C k112 w A l.length l) (hR : rightL l = true) : Calls Tryd.prog 82 #[.slice A l.length c] w (TupBelow (bytesL l) 0 w) := by
  have hg := rightL_get hR
  have HRL := Lib.hid (right_any A c l w hT hr)
  rw [hR] at HRL
  have HNU : Hid (∀ W, Calls Tryd.prog 78 #[.int .i64 (l.length : Int)] W (TupBelow (num7 l.length) 0 W)) := Lib.hid (fun W => number_any l.length W (by omega))
  have HG := Lib.hid hg
  have HLL := Lib.hid (fun k hk => labs7_len hR k hk)
  have HR := Lib.hid hr
  have h16 := hg.1
  clear hr hT hR hg
  go_enter Tryd.func82, Tryd.ntmps82
  go_wp2_with (first | (go_at_call 95; refine (HRL.out).mono ?_; rintro e w2 ⟨rfl, hb⟩; have HB := Lib.hid hb; clear hb) | (go_at_call 78; refine (HNU.out _).mono ?_; rintro e w3 ⟨v, rfl, ho, hb⟩; have HO := Lib.hid (Kd.R_lower ho (below_size HB.out)); have HB3 := Lib.hid (below_step HB.out hb); clear ho hb))
  go_loopw [4, 23] (fun v4 v23 wr => LabRel l w v4 v23 wr) (fun _ v23 _ => l.length - (intOf v23).toNat)
  case atStart => exact ⟨0, by have h := HO.out; simpa [labs7] using h, rfl, Nat.zero_le _, HB3.out⟩
  case round =>
    obtain ⟨k, ho, rfl, hk, hb⟩ := hrel
    have HOK := Lib.hid ho
    have HBK := Lib.hid hb
    clear ho
    by_cases hlt : k < l.length
    · have hki : (k : Int) < (l.length : Int) := by omega
      obtain ⟨b, o, rfl, hx⟩ := labs_at HR.out (by omega)
      have hx0 := pw_cell_below hb (hx k hlt).1
      have hx1 := pw_cell_below hb (hx k hlt).2
      have HS := Lib.hid (labs7_succ l k hlt)
      have hsz := HG.out.2.2 k hlt
      have hll := HLL.out (k + 1) (by omega)
      rw [HS.out] at hll
      have HCL : Hid ([labs7 l k, text7 (l.getD k z112).f0, text7 (l.getD k z112).f1].flatten.length ≤ 1099511627776) := Lib.hid (by omega)
      have HT0 : Hid (∀ W, Calls Tryd.prog 80 #[.string (l.getD k z112).f0] W (TupBelow (text7 (l.getD k z112).f0) 0 W)) := Lib.hid (fun W => text_any _ W (by omega))
      have HT1 : Hid (∀ W, Calls Tryd.prog 80 #[.string (l.getD k z112).f1] W (TupBelow (text7 (l.getD k z112).f1) 0 W)) := Lib.hid (fun W => text_any _ W (by omega))
      clear hx hsz hll hb
      generalize l.getD k z112 = x at *
      go_wp2_with fail
      obtain ⟨W, hW⟩ : ∃ W, W = wr.alloc (.cells #[.string x.f0, .string x.f1] 112) := ⟨_, rfl⟩
      rw [← hW]
      have c0 : W.cell? ⟨wr.heap.size, 0, none⟩ = some (.string x.f0) := by rw [hW]; exact two_at wr _ _ 112 0 _ rfl
      have c1 : W.cell? ⟨wr.heap.size, 1, none⟩ = some (.string x.f1) := by rw [hW]; exact two_at wr _ _ 112 1 _ rfl
      have HBW : Hid (Below w.heap.size w W) := Lib.hid (by rw [hW]; exact below_alloc HBK.out _)
      have HL4 : Hid (Lies W u4 (labs7 l k)) := Lib.hid (by rw [hW]; exact (OwnB.lies HOK.out).below (below_alloc (Below.refl _ _) _))
      obtain ⟨gb, hgb⟩ : ∃ g, g = wr.heap.size := ⟨_, rfl⟩
      obtain ⟨A4, q4, h4⟩ := Kd.R_slice HOK.out
      subst h4
      rw [← hgb] at c0 c1 ⊢
      clear hx0 hx1 hW hgb HOK HBK
      go_wp2_with (first | (go_at_call 80; (with_reducible refine (HT0.out _).mono ?_); rintro e w4 ⟨v4, rfl, ho4, hb4⟩; obtain ⟨A8, q8, rfl⟩ := Kd.R_slice ho4; have HL4a := Lib.hid (HL4.out.below hb4); have HL5 := Lib.hid (OwnB.lies ho4); have HB4 := Lib.hid (below_step HBW.out hb4); have c1 := pw_cell_below hb4 c1; clear ho4 hb4 c0) | (go_at_call 80; (with_reducible refine (HT1.out _).mono ?_); rintro e w5 ⟨v5, rfl, ho5, hb5⟩; obtain ⟨A9, q9, rfl⟩ := Kd.R_slice ho5; have HL4b := Lib.hid (HL4a.out.below hb5); have HL5b := Lib.hid (HL5.out.below hb5); have HL6 := Lib.hid (OwnB.lies ho5); have HB5 := Lib.hid (below_step HB4.out hb5); clear ho5 hb5) | (go_at_call 83; refine (concat_any _ _ [_, _, _] _ (rows3 23 HL4b.out HL5b.out HL6.out) HCL.out).mono ?_; rintro e w6 ⟨v6, rfl, ho6, hb6⟩; have HO6 := Lib.hid (Kd.R_lower ho6 (below_size (below_alloc HB5.out _))); have HB6 := Lib.hid (below_step (below_alloc HB5.out _) hb6); clear ho6 hb6))
      go_roundw
      case rel => exact ⟨k + 1, by rw [HS.out]; exact HO6.out, by go_num, by omega, HB6.out⟩
      case measure => simp [intOf]; omega
    · have HE := Lib.hid (labs7_all l k hlt)
      have hki : ¬ (k : Int) < (l.length : Int) := by omega
      go_wp2
      go_ret2
      exact ⟨_, rfl, by rw [← HE.out]; exact HOK.out, HBK.out⟩
end Go.Proofs.YtojocffjajcdmaaDoor
namespace Go.Proofs.YtojocffjajcdmaaDoor
open Go.RowKit Go.Proofs.YtojocffjajcdmaaDoorW.PrintWords Go.Proofs.YtojocffjajcdmaaDoorW.PrintLast Go.Proofs.YtojocffjajcdmaaDoorW.PrintMore PChunkAll
set_option linter.unusedVariables false
set_option linter.unusedSimpArgs false

theorem strOfNums_size (xs : List Int) : (strOfNums xs).size = xs.length := by
  unfold strOfNums
  show (List.toArray _).size = _
  simp
theorem rightE_get {x : S33} (h : rightE x = true) : 1 ≤ x.f0 ∧ x.f0 < 1099511627776 ∧ 0 ≤ x.f1 ∧ x.f1 < 1099511627776 ∧ rightL x.f2 = true ∧ x.f3.size ≤ 1024 := by
  unfold rightE at h
  simp only [Bool.and_eq_true, decide_eq_true_eq] at h
  exact ⟨h.1.1, h.1.2.1, h.1.2.2.1, h.1.2.2.2, h.2.1, h.2.2⟩
theorem bytesL_len {l : List S112} (h : rightL l = true) : (bytesL l).length ≤ 3169 ∧ 1 ≤ (bytesL l).length := by
  have h1 := labs7_len h l.length (Nat.le_refl _)
  rw [labs7_all l l.length (by omega)] at h1
  have h2 := rightL_get h
  omega
theorem num7_len6 {n : Int} (h0 : 0 ≤ n) (h : n < 1099511627776) : 1 ≤ (num7 n.toNat).length ∧ (num7 n.toNat).length ≤ 6 := num7_len n.toNat 5 (by omega)
end Go.Proofs.YtojocffjajcdmaaDoor
namespace Go.Proofs.YtojocffjajcdmaaDoor
open Go.RowKit Go.Proofs.YtojocffjajcdmaaDoorW.PrintWords Go.Proofs.YtojocffjajcdmaaDoorW.PrintLast Go.Proofs.YtojocffjajcdmaaDoorW.PrintMore PChunkAll
set_option linter.unusedVariables false
set_option linter.unusedSimpArgs false

/-- Where entries lie. -/
def EntAt (w : World) (b o i : Nat) (x : S33) : Prop := ∃ A2 c2, w.cell? ⟨b, o + i * 4, none⟩ = some (.int .i64 x.f0) ∧ w.cell? ⟨b, o + i * 4 + 1, none⟩ = some (.int .i64 x.f1) ∧ w.cell? ⟨b, o + i * 4 + 2, none⟩ = some (.slice A2 x.f2.length c2) ∧ w.cell? ⟨b, o + i * 4 + 3, none⟩ = some (.string x.f3) ∧ x.f2.length ≤ c2 ∧ Kd.C k112 w A2 x.f2.length x.f2
theorem EntAt.below {w w' : World} {b o i : Nat} {x : S33} (h : EntAt w b o i x) (hb : Below w.heap.size w w') : EntAt w' b o i x := by
  obtain ⟨A2, c2, h0, h1, h2, h3, h4, h5⟩ := h
  exact ⟨A2, c2, pw_cell_below hb h0, pw_cell_below hb h1, pw_cell_below hb h2, pw_cell_below hb h3, h4, Kd.C_below h5 hb⟩
theorem ents_at {w : World} {A : Option Addr} {l : List S33} (h : Kd.C k33 w A l.length l) (hp : 0 < l.length) : ∃ b o, A = some ⟨b, o, none⟩ ∧ ∀ i, i < l.length → EntAt w b o i (l.getD i z33) := by
  obtain ⟨ad, A2, c2, e, h0, _⟩ := at_T33 h 0 (by omega) (by omega)
  have hsp := spot_none (a := ad) (by have h1 : ad.add ((0 : Int).toNat * 4) = ad := by { show ad.add 0 = ad; rfl }; rw [h1] at h0; exact h0)
  refine ⟨ad.block, ad.off, by rw [← hsp]; exact e, fun i hi => ?_⟩
  obtain ⟨ad', A2', c2', e', h0', h1', h2', h3', h4', h5'⟩ := at_T33 h (i : Int) (by omega) (by omega)
  rw [e] at e'
  injection e' with e'
  subst e'
  rw [hsp] at h0' h1' h2' h3'
  rw [addr_add] at h0' h1' h2' h3'
  exact ⟨A2', c2', h0', h1', h2', h3', h4', h5'⟩

end Go.Proofs.YtojocffjajcdmaaDoor
namespace Go.Proofs.YtojocffjajcdmaaDoor
open Go.RowKit Go.Proofs.YtojocffjajcdmaaDoorW.PrintWords Go.Proofs.YtojocffjajcdmaaDoorW.PrintLast Go.Proofs.YtojocffjajcdmaaDoorW.PrintMore PChunkAll
set_option linter.unusedVariables false
set_option linter.unusedSimpArgs false

/-! ### The closure: one entry's bytes behind the others -/
end Go.Proofs.YtojocffjajcdmaaDoor
namespace Go.Proofs.YtojocffjajcdmaaDoor
open Go.RowKit Go.Proofs.YtojocffjajcdmaaDoorW.PrintWords Go.Proofs.YtojocffjajcdmaaDoorW.PrintLast Go.Proofs.YtojocffjajcdmaaDoorW.PrintMore PChunkAll
set_option linter.unusedVariables false
set_option linter.unusedSimpArgs false

def SeqOk (l : List S33) : Prop := ∀ k, k < l.length → -9223372036854775808 ≤ (l.getD k z33).f0 ∧ (l.getD k z33).f0 ≤ 9223372036854775807
end Go.Proofs.YtojocffjajcdmaaDoor
namespace Go.Proofs.YtojocffjajcdmaaDoor
open Go.RowKit Go.Proofs.YtojocffjajcdmaaDoorW.PrintWords Go.Proofs.YtojocffjajcdmaaDoorW.PrintLast Go.Proofs.YtojocffjajcdmaaDoorW.PrintMore PChunkAll
set_option linter.unusedVariables false
set_option linter.unusedSimpArgs false

/-- Block b holds just these cells. -/
structure Blk (w : World) (b : Nat) (cs : Array Value) (t : Nat) : Prop where
  out : w.heap[b]? = some (.cells cs t (0, 0))

theorem Blk.new (w : World) (cs : Array Value) (t b : Nat) (hb : b = w.heap.size) : Blk (w.alloc (.cells cs t)) b cs t := by
  subst hb; exact ⟨by show (w.heap.push _)[_]? = _; simp⟩
theorem Blk.lt {w : World} {b t : Nat} {cs : Array Value} (h : Blk w b cs t) : b < w.heap.size :=
  (Array.getElem?_eq_some_iff.1 h.out).1
theorem Blk.below {w w' : World} {B b t : Nat} {cs : Array Value} (h : Blk w b cs t) (hb : Below B w w') (hB : b < B) : Blk w' b cs t :=
  ⟨(hb.block b hB).trans h.out⟩
theorem Blk.alloc {w : World} {b t : Nat} {cs : Array Value} (h : Blk w b cs t) (o : Obj) : Blk (w.alloc o) b cs t :=
  ⟨(Below.heap_alloc w o b h.lt).trans h.out⟩
theorem Blk.drew {w : World} {b t : Nat} {cs : Array Value} (h : Blk w b cs t) : Blk w.drew b cs t := ⟨h.out⟩
theorem Blk.drewN {w : World} {b t : Nat} {cs : Array Value} (h : Blk w b cs t) (n : Nat) : Blk (w.drewN n) b cs t := ⟨h.out⟩
theorem Blk.cell {w : World} {b t : Nat} {cs : Array Value} (h : Blk w b cs t) (i : Nat) (v : Value) (hv : cs[i]? = some v) : w.cell? ⟨b, i, none⟩ = some v := by
  unfold World.cell?; rw [h.out]; simpa using hv
theorem Blk.frozen {w : World} {b t : Nat} {cs : Array Value} (h : Blk w b cs t) (i : Nat) : w.frozen? ⟨b, i, none⟩ = false := by
  unfold World.frozen?; rw [h.out]; simp
theorem Blk.set {w : World} {b t : Nat} {cs : Array Value} (h : Blk w b cs t) (i : Nat) (v : Value) : Blk (w.setCell ⟨b, i, none⟩ v) b (cs.setIfInBounds i v) t := by
  constructor
  show (w.heap.modify b _)[b]? = _
  simp [Array.getElem?_modify, h.out]
theorem Blk.far {w : World} {b t : Nat} {cs : Array Value} (h : Blk w b cs t) (a : Addr) (v : Value) (hne : b ≠ a.block) : Blk (w.setCell a v) b cs t :=
  ⟨(Below.heap_setCell w a v b hne).trans h.out⟩

theorem wp_gen {P : Program} {c : Code} {Q : Exit → Act → World → Prop} {a : Act} {W : World} (S : World → Prop) (h : S W)
    (k : ∀ W', S W' → Code.wp P c Q a W') : Code.wp P c Q a W := k W h
set_option maxHeartbeats 400000 in
theorem isNaN_any (a : Int) (w : World) :
    Calls Tryd.prog 147 #[.int .i64 a] w fun e w' => e = .returned (.bool false) ∧ w = w' := by
  go_enter Tryd.func147, Tryd.ntmps147
  go_wp2
  go_ret
  exact ⟨by simp, rfl⟩

def cmpI (a b : Int) : Int := if a < b then -1 else if a > b then 1 else 0

set_option maxHeartbeats 400000 in
theorem compare_any (a b : Int) (w : World) :
    Calls Tryd.prog 98 #[.int .i64 a, .int .i64 b] w fun e w' => e = .returned (.int .i64 (cmpI a b)) ∧ w = w' := by
  by_cases h1 : a < b
  · have hr : cmpI a b = -1 := by simp [cmpI, h1]
    have HR := Lib.hid hr; clear hr
    go_enter Tryd.func98, Tryd.ntmps98
    go_wp2_with (go_at_call 147; refine (isNaN_any _ _).mono ?_; rintro e w' ⟨rfl, rfl⟩)
    go_ret
    exact ⟨by rw [HR.out]; rfl, rfl⟩
  · by_cases h2 : b < a
    · have hr : cmpI a b = 1 := by simp [cmpI, h1, h2]
      have HR := Lib.hid hr; clear hr
      go_enter Tryd.func98, Tryd.ntmps98
      go_wp2_with (go_at_call 147; refine (isNaN_any _ _).mono ?_; rintro e w' ⟨rfl, rfl⟩)
      go_ret
      exact ⟨by rw [HR.out]; rfl, rfl⟩
    · have hr : cmpI a b = 0 := by simp [cmpI, h1, h2]
      have HR := Lib.hid hr; clear hr
      go_enter Tryd.func98, Tryd.ntmps98
      go_wp2_with (go_at_call 147; refine (isNaN_any _ _).mono ?_; rintro e w' ⟨rfl, rfl⟩)
      go_ret
      exact ⟨by rw [HR.out]; rfl, rfl⟩
def orI (a b : Int) : Int := if a = 0 then b else a

set_option maxHeartbeats 400000 in
theorem or2_any (a b : Int) (g : Nat) (w : World) (h0 : w.cell? ⟨g, 0, none⟩ = some (.int .i64 a)) (h1 : w.cell? ⟨g, 1, none⟩ = some (.int .i64 b)) :
    Calls Tryd.prog 149 #[.slice (some ⟨g, 0, none⟩) 2 2] w fun e w' => e = .returned (.int .i64 (orI a b)) ∧ w = w' := by
  by_cases ha : a = 0
  · subst ha
    have hr : orI 0 b = b := by simp [orI]
    have HR := Lib.hid hr; clear hr
    by_cases hb : b = 0
    · subst hb
      go_enter Tryd.func149, Tryd.ntmps149
      go_wp2
      refine wp_loop_rounds 3 ?_; rw [rounds_succ]
      go_wp2
      rw [rounds_succ]
      go_wp2
      rw [rounds_succ]
      go_wp2
      go_ret
      exact ⟨by rw [HR.out]; rfl, rfl⟩
    · have hb' : (b != 0) = true := by simpa using hb
      clear hb
      go_enter Tryd.func149, Tryd.ntmps149
      go_wp2
      refine wp_loop_rounds 2 ?_; rw [rounds_succ]
      go_wp2
      rw [rounds_succ]
      go_wp2
      go_ret
      exact ⟨by rw [HR.out]; rfl, rfl⟩
  · have hr : orI a b = a := by simp [orI, ha]
    have HR := Lib.hid hr; clear hr
    have ha' : (a != 0) = true := by simpa using ha
    clear ha
    go_enter Tryd.func149, Tryd.ntmps149
    go_wp2
    refine wp_loop_rounds 1 ?_; rw [rounds_succ]
    go_wp2
    go_ret
    exact ⟨by rw [HR.out]; rfl, rfl⟩
def cmpE (s t s' t' : Int) : Int := orI (cmpI t t') (cmpI s s')
abbrev entC4 (s t : Int) (l n : Value) : Array Value := #[.int .i64 s, .int .i64 t, l, n]

theorem two_new0 (w : World) (a b : Value) (t : Nat) : (w.alloc (.cells #[a, b] t)).drew.cell? ⟨w.heap.size, 0, none⟩ = some a := (Blk.new w _ _ _ rfl).drew.cell 0 _ rfl
theorem two_new1 (w : World) (a b : Value) (t : Nat) : (w.alloc (.cells #[a, b] t)).drew.cell? ⟨w.heap.size, 1, none⟩ = some b := (Blk.new w _ _ _ rfl).drew.cell 1 _ rfl
theorem or2_new (a b : Int) (w : World) : Calls Tryd.prog 149 #[.slice (some ⟨w.heap.size, 0, none⟩) 2 2] (w.alloc (.cells #[.int .i64 a, .int .i64 b] 3)).drew
    fun e w' => e = .returned (.int .i64 (orI a b)) ∧ (w.alloc (.cells #[.int .i64 a, .int .i64 b] 3)).drew = w' :=
  or2_any a b _ _ (two_new0 _ _ _ _) (two_new1 _ _ _ _)
set_option maxHeartbeats 400000 in
theorem order_any (s1 t1 s2 t2 : Int) (l1 l2 n1 n2 : Value) (z : Array Value) (w : World) :
    Calls Tryd.prog 110 #[.agg z, .agg #[.int .i64 s1, .int .i64 t1, l1, n1], .agg #[.int .i64 s2, .int .i64 t2, l2, n2]] w
      fun e w' => e = .returned (.int .i64 (cmpE s1 t1 s2 t2)) ∧ Below w.heap.size w w' := by
  go_enter Tryd.func110, Tryd.ntmps110
  go_wp2
  refine wp_gen (fun W => Below w.heap.size w W ∧ Blk W (w.heap.size + 1) (entC4 s1 t1 l1 n1) 33 ∧ Blk W (w.heap.size + 1 + 1) (entC4 s2 t2 l2 n2) 33)
    ⟨(((Below.refl _ _).alloc (by simp) _).alloc (by simp) _).alloc (by simp; omega) _, (Blk.new _ _ _ _ (by simp)).alloc _, Blk.new _ _ _ _ (by simp)⟩ ?_
  rintro W ⟨hb, b1, b2⟩
  have c1 := b1.cell 0 _ rfl
  have c2 := b1.cell 1 _ rfl
  have c3 := b2.cell 0 _ rfl
  have c4 := b2.cell 1 _ rfl
  go_region_held3 (fun w' => w'.cell? ⟨w.heap.size + 1, 0, none⟩ = some (.int .i64 s1) ∧ w'.cell? ⟨w.heap.size + 1, 1, none⟩ = some (.int .i64 t1) ∧ w'.cell? ⟨w.heap.size + 1 + 1, 0, none⟩ = some (.int .i64 s2) ∧ w'.cell? ⟨w.heap.size + 1 + 1, 1, none⟩ = some (.int .i64 t2)) (go_keep)
    (first | (go_at_call 98; refine (compare_any _ _ _).mono ?_; rintro e w' ⟨rfl, rfl⟩)
           | (go_at_call 149; refine (or2_new _ _ _).mono ?_; rintro e w' ⟨rfl, rfl⟩))
  go_wp2
  go_ret
  exact ⟨rfl, (hb.alloc hb.size _).drew⟩

def beforeE (s t s' t' : Int) : Bool := decide (cmpE s t s' t' < 0)
set_option maxHeartbeats 400000 in
theorem before_any (s1 t1 s2 t2 : Int) (l1 l2 n1 n2 : Value) (w : World) :
    Calls Tryd.prog 51 #[.agg #[.int .i64 s1, .int .i64 t1, l1, n1], .agg #[.int .i64 s2, .int .i64 t2, l2, n2]] w
      fun e w' => e = .returned (.bool (beforeE s1 t1 s2 t2)) ∧ Below w.heap.size w w' := by
  go_enter Tryd.func51, Tryd.ntmps51
  go_wp2_with fail
  refine (order_any s1 t1 s2 t2 l1 l2 n1 n2 _ _).mono ?_
  rintro e w1 ⟨rfl, hb1⟩
  go_wp2
  go_ret
  exact ⟨rfl, (((Below.refl _ _).alloc (by simp) _).alloc (by simp) _).trans (hb1.mono (by simp; omega))⟩

end Go.Proofs.YtojocffjajcdmaaDoor
namespace Go.Proofs.YtojocffjajcdmaaDoor
open Go.RowKit Go.Proofs.YtojocffjajcdmaaDoorW.PrintWords Go.Proofs.YtojocffjajcdmaaDoorW.PrintLast Go.Proofs.YtojocffjajcdmaaDoorW.PrintMore PChunkAll
set_option linter.unusedVariables false
set_option linter.unusedSimpArgs false

def lab0 : S112 := ⟨⟨#[97]⟩, ⟨#[120]⟩⟩
theorem bytesL0 : bytesL [lab0] = [1, 1, 97, 1, 120] := by
  simp [bytesL, lab7, lab0, text7, num7_small, bytesOf, ByteArray.size]
theorem lab0_at (w : World) : Kd.C k112 (w.alloc (.cells #[.string ⟨#[97]⟩, .string ⟨#[120]⟩] 112)) (some ⟨w.heap.size, 0, none⟩) [lab0].length [lab0] := by
  refine ⟨rfl, by decide, fun _ => ⟨_, rfl, fun j p hj => ?_⟩⟩
  have hj0 : j = 0 := by
    have := (List.getElem?_eq_some_iff.1 hj).1
    simp at this
    exact this
  subst hj0
  simp only [List.getElem?_cons_zero, Option.some.injEq] at hj
  subst hj
  refine ⟨[.string ⟨#[97]⟩, .string ⟨#[120]⟩], rfl, k112_mk _ lab0, fun i u hu => ?_⟩
  rw [addr_add, blk_cell (heap_alloc_new w _)]
  have e1 : 0 + (0 * k112.sz + i) = i := by omega
  rw [e1]
  simpa using hu
end Go.Proofs.YtojocffjajcdmaaDoor
namespace Go.Proofs.YtojocffjajcdmaaDoor
open Go.RowKit Go.Proofs.YtojocffjajcdmaaDoorW.PrintWords Go.Proofs.YtojocffjajcdmaaDoorW.PrintLast Go.Proofs.YtojocffjajcdmaaDoorW.PrintMore PChunkAll
set_option linter.unusedVariables false
set_option linter.unusedSimpArgs false

/-- What may lie in memory: numbers are i64, no more labels than memory holds. -/
def EntsOk (l : List S33) : Prop := l.length ≤ 2513169434916 ∧ SeqOk l ∧ ∀ k, k < l.length → (l.getD k z33).f2.length < 4398046511104
theorem own02_f (l : List S112) (h : l.length < 4398046511104) : icehouselaw02_Own.f l = some l := by
  unfold icehouselaw02_Own.f
  simp only [Option.bind_some, List.length_nil, Nat.zero_add, List.nil_append]
  rw [if_pos h]
theorem own03_f (x : S33) (h : x.f2.length < 4398046511104) : icehouselaw03_Own.f x.f0 x.f1 x.f2 x.f3 = some (x.f0, x.f1, x.f2, x.f3) := by
  unfold icehouselaw03_Own.f
  rw [own02_f _ h]
  rfl
theorem all03_l0 (l : List S33) (h : EntsOk l) (n k : Nat) (hk : k + n = l.length) : icehouselaw03_All.l0 (n + 1) l (l.take k) (k : Int) = some l := by
  induction n generalizing k with
  | zero =>
    rw [icehouselaw03_All.l0, if_neg (by omega), List.take_of_length_le (by omega)]
  | succ n ih =>
    rw [icehouselaw03_All.l0, if_pos (by omega), if_pos (by omega)]
    have e : rd_T33 l (k : Int) = l.getD k z33 := by unfold rd_T33; rw [Int.toNat_natCast]
    rw [e, own03_f _ (h.2.2 k (by omega))]
    simp only [Option.bind_some]
    have hw : wrap64 ((k : Int) + 1) = ((k + 1 : Nat) : Int) := by
      have := h.1
      unfold wrap64
      omega
    rw [if_pos (by rw [List.length_take]; have := h.1; omega), hw]
    have ht : List.take k l ++ [(⟨(l.getD k z33).f0, (l.getD k z33).f1, (l.getD k z33).f2, (l.getD k z33).f3⟩ : S33)] = List.take (k + 1) l := by
      rw [List.take_succ_eq_append_getElem (by omega)]
      have e3 : l.getD k z33 = l[k] := by simp [show k < l.length by omega]
      rw [e3]
    rw [ht]
    exact ih (k + 1) (by omega)
theorem all_any (A : Option Addr) (c : Nat) (l : List S33) (w : World) (hr : Kd.C k33 w A l.length l) (hc : l.length ≤ c) (h : EntsOk l) :
    Calls Tryd.prog 19 #[.slice A l.length c] w fun e w' => ∃ A' c', e = .returned (.slice A' l.length c') ∧ l.length ≤ c' ∧ Kd.C k33 w' A' l.length l ∧ Below w.heap.size w w' := by
  refine (icehouselaw03_All.calls (l.length + 1) A c l l w hr hc (all03_l0 l h l.length 0 (by omega))).mono ?_
  rintro e w' ⟨v, rfl, hs, hb⟩
  obtain ⟨A', c', rfl⟩ := Kd.S_slice hs
  exact ⟨A', c', rfl, (Kd.S_reads' hs).2.1, (Kd.S_reads' hs).2.2, hb⟩
/-! ### Sizes -/
end Go.Proofs.YtojocffjajcdmaaDoor
namespace Go.Proofs.YtojocffjajcdmaaDoor
open Go.RowKit Go.Proofs.YtojocffjajcdmaaDoorW.PrintWords Go.Proofs.YtojocffjajcdmaaDoorW.PrintLast Go.Proofs.YtojocffjajcdmaaDoorW.PrintMore PChunkAll
set_option linter.unusedVariables false
set_option linter.unusedSimpArgs false

/-! ### Equal entries are the same -/
theorem same02_l0 (l : List S112) (hl : l.length < 4398046511104) (n i : Nat) (h : i + n = l.length) : icehouselaw02_Same.l0 (n + 1) l l (i : Int) = some true := by
  induction n generalizing i with
  | zero => rw [icehouselaw02_Same.l0, if_neg (by omega)]
  | succ n ih =>
    have hw : wrap64 ((i : Int) + 1) = ((i + 1 : Nat) : Int) := by unfold wrap64; omega
    rw [icehouselaw02_Same.l0, if_pos (by omega), if_pos (by omega), if_pos (by omega), if_pos rfl, if_pos rfl, hw]
    exact ih (i + 1) (by omega)
theorem same02_f (l : List S112) (hl : l.length < 4398046511104) : icehouselaw02_Same.f (l.length + 1) l l = some true := by
  unfold icehouselaw02_Same.f
  rw [if_pos rfl]
  exact same02_l0 l hl l.length 0 (by omega)
theorem same03_f (x : S33) (hl : x.f2.length < 4398046511104) : icehouselaw03_Same.f (x.f2.length + 1) x.f0 x.f1 x.f2 x.f3 x.f0 x.f1 x.f2 x.f3 = some true := by
  unfold icehouselaw03_Same.f
  rw [if_pos rfl, if_pos rfl, if_pos rfl, same02_f _ hl]
  rfl
end Go.Proofs.YtojocffjajcdmaaDoor
namespace Go.Proofs.YtojocffjajcdmaaDoor
open Go.RowKit Go.Proofs.YtojocffjajcdmaaDoorW.PrintWords Go.Proofs.YtojocffjajcdmaaDoorW.PrintLast Go.Proofs.YtojocffjajcdmaaDoorW.PrintMore PChunkAll
set_option linter.unusedVariables false
set_option linter.unusedSimpArgs false

set_option maxHeartbeats 2000000 in
set_option maxRecDepth 100000 in
theorem same_any (x : S33) (A B : Option Addr) (c d : Nat) (w : World) (hA : Kd.C k112 w A x.f2.length x.f2) (hc : x.f2.length ≤ c) (hB : Kd.C k112 w B x.f2.length x.f2) (hd : x.f2.length ≤ d) (hl : x.f2.length < 4398046511104) :
    Calls Tryd.prog 31 #[entA x A c, entA x B d] w fun e w' => e = .returned (.bool true) ∧ Below w.heap.size w w' :=
  (icehouselaw03_Same.calls (x.f2.length + 1) x.f0 x.f1 A c x.f2 x.f3 x.f0 x.f1 B d x.f2 x.f3 true w hA hc hB hd (same03_f x hl)).mono fun e w' h => h
end Go.Proofs.YtojocffjajcdmaaDoor
namespace Go.Proofs.YtojocffjajcdmaaDoor
open Go.RowKit Go.Proofs.YtojocffjajcdmaaDoorW.PrintWords Go.Proofs.YtojocffjajcdmaaDoorW.PrintLast Go.Proofs.YtojocffjajcdmaaDoorW.PrintMore PChunkAll
set_option linter.unusedVariables false
set_option linter.unusedSimpArgs false

def LawRes (w : World) (e : Ending) (w' : World) : Prop := e = .returned (.bool true) ∧ Below w.heap.size w w'

/-! ### Equal lists are the same -/
def LenE (l : List S33) : Prop := ∀ k, k < l.length → (l.getD k z33).f2.length < 4398046511104
def SaRel (l : List S33) (w : World) (v5 : Value) (wr : World) : Prop := ∃ k : Nat, v5 = .int .i64 k ∧ k ≤ l.length ∧ Below w.heap.size w wr

set_option maxHeartbeats 4000000 in
theorem sames_any (A B : Option Addr) (c d : Nat) (l : List S33) (w : World) (hA : Kd.C k33 w A l.length l) (hB : Kd.C k33 w B l.length l) (hl : LenE l) : Calls Tryd.prog 38 #[.slice A l.length c, .slice B l.length d] w (BoolBelow true w) := by
  have hmax := Kd.C_max hA
  have HA := Lib.hid hA
  have HB := Lib.hid hB
  have HL := Lib.hid hl
  clear hA hB hl
  go_enter Tryd.func38, Tryd.ntmps38
  go_wp2
  go_loopw [5] (fun v5 wr => SaRel l w v5 wr) (fun v5 _ => l.length - (intOf v5).toNat)
  case atStart => exact ⟨0, rfl, Nat.zero_le _, Below.refl _ _⟩
  case round =>
    obtain ⟨k, rfl, hk, hb⟩ := hrel
    by_cases hlt : k < l.length
    · have hki : (k : Int) < (l.length : Int) := by omega
      obtain ⟨b, o, rfl, hx⟩ := ents_at HA.out (by omega)
      obtain ⟨b', o', rfl, hy⟩ := ents_at HB.out (by omega)
      obtain ⟨A1, c1, p0, p1, p2, p3, p4, p5⟩ := (hx k hlt).below hb
      obtain ⟨A2, c2, q0, q1, q2, q3, q4, q5⟩ := (hy k hlt).below hb
      have HS := Lib.hid (fun W' (hb' : Below wr.heap.size wr W') => same_any (l.getD k z33) A1 A2 c1 c2 W' (Kd.C_below p5 hb') p4 (Kd.C_below q5 hb') q4 (HL.out k hlt))
      clear hx hy p4 p5 q4 q5
      generalize l.getD k z33 = x at *
      go_wp2_with fail
      have HBW := Lib.hid hb
      clear hb
      have P0 := fun d os => cell_regrown p0 d os
      have P1 := fun d os => cell_regrown p1 d os
      have P2 := fun d os => cell_regrown p2 d os
      have P3 := fun d os => cell_regrown p3 d os
      have Q0 := fun d os => cell_regrown q0 d os
      have Q1 := fun d os => cell_regrown q1 d os
      have Q2 := fun d os => cell_regrown q2 d os
      have Q3 := fun d os => cell_regrown q3 d os
      have cN := fun d os => Calls.regrown_of (HS.out (Go.Sort.grow (redrawn wr d) os) (below_regrown wr d os))
      refine wp_region_quiet_below (by kernel_rfl) (by kernel_rfl) ?_
      repeat (first | go_big_quiet_step ((exact cN _ _)) | quiet_step ((exact cN _ _)))
      refine wpQuiet_nil ?_
      intro _ hw'
      obtain ⟨⟨dq, osq⟩, hw''⟩ := hw'
      subst hw''
      go_wp2_with fail
      go_roundw
      case rel => exact ⟨k + 1, by go_num, by omega, HBW.out.trans ((below_regrown wr dq osq).mono HBW.out.size)⟩
      case measure => simp [intOf]; omega
    · have hki : ¬ (k : Int) < (l.length : Int) := by omega
      have HBW := Lib.hid hb
      clear hb
      go_wp2
      go_ret
      exact ⟨rfl, HBW.out⟩
end Go.Proofs.YtojocffjajcdmaaDoor
