import Derived.Test.YtojocffjajcdmaaDoorPChunkAllx4
import Derived.Laws.RangeAny
import Derived.Lib.OthersKept
import Derived.Lib.Hide
import Derived.WalkSpells
import Derived.WalkLawsBesides
namespace Go.Proofs.YtojocffjajcdmaaDoor
open Go.RowKit Go.Proofs.YtojocffjajcdmaaDoorW.PrintWords Go.Proofs.YtojocffjajcdmaaDoorW.PrintLast Go.Proofs.YtojocffjajcdmaaDoorW.PrintMore PChunkAll
set_option linter.unusedVariables false
set_option linter.unusedSimpArgs false

/-- A letter, a digit. -/
def isLet (c : Int) : Bool := (label_letter.f c).getD false
def isDig (c : Int) : Bool := (label_digit.f c).getD false
theorem letter_some (c : Int) : label_letter.f c = some (isLet c) := by
  unfold isLet label_letter.f
  repeat' split
  all_goals rfl
theorem digit_some (c : Int) : label_digit.f c = some (isDig c) := by
  unfold isDig label_digit.f
  split <;> rfl
theorem isLet_iff (c : Int) : isLet c = true ↔ (97 ≤ c ∧ c ≤ 122) ∨ (65 ≤ c ∧ c ≤ 90) ∨ c = 95 := by
  unfold isLet label_letter.f
  repeat' split
  all_goals simp
  all_goals omega
theorem isDig_iff (c : Int) : isDig c = true ↔ 48 ≤ c ∧ c ≤ 57 := by
  unfold isDig label_digit.f
  split <;> simp <;> omega
theorem letter_any (c : Int) (w : World) : Calls Tryd.prog 170 #[.int .i32 c] w fun e w' => e = .returned (.bool (isLet c)) ∧ ∃ n, w' = w.drewN n :=
  (label_letter.calls c _ w (letter_some c)).mono fun e w' h => ⟨h.1, h.2.out⟩
theorem digit_any (c : Int) (w : World) : Calls Tryd.prog 171 #[.int .i32 c] w fun e w' => e = .returned (.bool (isDig c)) ∧ ∃ n, w' = w.drewN n :=
  (label_digit.calls c _ w (digit_some c)).mono fun e w' h => ⟨h.1, h.2.out⟩

/-- May a byte stand in a name, at its beginning or behind? -/
def nameB : Nat → List UInt8 → Bool
  | _, [] => true
  | i, c :: l => (isLet c.toNat || (decide (0 < i) && isDig c.toNat)) && nameB (i + 1) l
def nameI (s : ByteArray) : Bool := nameB 0 s.data.toList && (decide (1 ≤ s.size) && decide (s.size ≤ 64))
theorem drop_at (s : ByteArray) (k : Nat) (h : k < s.size) : s.data.toList.drop k = s[k] :: s.data.toList.drop (k + 1) := by
  rw [List.drop_eq_getElem_cons (by rw [data_length]; exact h)]
  rfl
theorem nameB_cons (i : Nat) (c : UInt8) (l : List UInt8) : nameB i (c :: l) = ((isLet c.toNat || (decide (0 < i) && isDig c.toNat)) && nameB (i + 1) l) := rfl
theorem drewN_heap (w : World) (n : Nat) : (w.drewN n).heap = w.heap := rfl
theorem drewN_pos (w : World) (n k : Nat) : (w.drewN n).iterPos k = w.iterPos k := rfl

def NameRel (s : ByteArray) (w : World) (wr : World) : Prop :=
  ∃ k : Nat, k ≤ s.size ∧ wr.heap[w.heap.size]? = some (.stringIter s k) ∧ nameB 0 s.data.toList = nameB k (s.data.toList.drop k) ∧ Below w.heap.size w wr
def BoolBelow (b : Bool) (w : World) (e : Ending) (w' : World) : Prop := e = .returned (.bool b) ∧ Below w.heap.size w w'

set_option maxHeartbeats 1000000 in
theorem name_any (s : ByteArray) (w : World) : Calls Tryd.prog 143 #[.string s] w (BoolBelow (nameI s) w) := by
  have hit := World.iter_heap w s 0
  have hb0 : Below w.heap.size w (w.iter s 0) := (Below.refl _ w).alloc (Nat.le_refl _) _
  go_enter Tryd.func143, Tryd.ntmps143
  go_wp2
  go_loopw [3] (fun _ wr => NameRel s w wr) (fun _ wr => s.size - wr.iterPos w.heap.size)
  case atStart => exact ⟨0, Nat.zero_le _, hit, by simp, hb0⟩
  case round =>
    obtain ⟨k, hk, hkk, heq, hb⟩ := hrel
    clear hit hb0
    have HEQ := Lib.hid heq
    clear heq
    have hmu : wr.iterPos w.heap.size = k := by simp [World.iterPos, hkk]
    have HMU := Lib.hid hmu
    clear hmu
    by_cases hp : k < s.size
    · have HDR := Lib.hid (drop_at s k hp)
      by_cases ha : (s[k]'hp).toNat < 128
      · have hnext : ∀ ty, (Instr.next (.pointer (some ⟨w.heap.size, 0, none⟩)) true ty).run Tryd.prog wr = _ := fun ty => Lib.run_next_ascii_at wr w.heap.size s k ty hkk hp ha
        have hk1 := Lib.iterAt_heap wr w.heap.size s k (k + 1) hkk
        have hb1 : Below w.heap.size w (wr.iterAt w.heap.size s (k + 1)) := Lib.below_iterAt hb (Nat.le_refl _) s (k + 1)
        have HSTEP : Hid (nameB 0 s.data.toList = ((isLet (s[k]'hp).toNat || (decide (0 < k) && isDig (s[k]'hp).toNat)) && nameB (k + 1) (s.data.toList.drop (k + 1)))) := Lib.hid (by rw [HEQ.out, HDR.out, nameB_cons])
        have HK1 := Lib.hid hk1
        have HB1 := Lib.hid hb1
        clear hk1 hb1 hkk hb
        generalize wr.iterAt w.heap.size s (k + 1) = W1 at *
        generalize (s[k]'hp).toNat = cn at *
        cases hl : isLet (cn : Int) with
        | true =>
          have HL := Lib.hid (letter_any (cn : Int) W1)
          rw [hl] at HL
          have HN : Hid (nameB 0 s.data.toList = nameB (k + 1) (s.data.toList.drop (k + 1))) := Lib.hid (by rw [HSTEP.out, hl]; simp)
          clear hl
          go_wp2_with (go_at_call 170; refine (HL.out).mono ?_; rintro e w2 ⟨rfl, n, rfl⟩)
          go_roundw
          case rel => exact ⟨k + 1, by omega, HK1.out, HN.out, pw_below_drewN HB1.out n⟩
          case measure =>
            have h2 : (W1.drewN n).iterPos w.heap.size = k + 1 := by rw [drewN_pos]; simp [World.iterPos, HK1.out]
            rw [HMU.out, h2]; omega
        | false =>
          have HL := Lib.hid (letter_any (cn : Int) W1)
          rw [hl] at HL
          by_cases hk0 : k = 0
          · have hkz : ((k : Int) == 0) = true := by simpa using hk0
            have HN : Hid (nameI s = false) := Lib.hid (by unfold nameI; rw [HSTEP.out, hl, hk0]; simp)
            clear hl hk0
            go_wp2_with (go_at_call 170; refine (HL.out).mono ?_; rintro e w2 ⟨rfl, n, rfl⟩)
            go_ret
            exact ⟨by rw [HN.out]; rfl, pw_below_drewN HB1.out n⟩
          · have hkz : ((k : Int) == 0) = false := by simpa using hk0
            cases hd : isDig (cn : Int) with
            | true =>
              have HG := Lib.hid (fun n => digit_any (cn : Int) (W1.drewN n))
              rw [hd] at HG
              have HN : Hid (nameB 0 s.data.toList = nameB (k + 1) (s.data.toList.drop (k + 1))) := Lib.hid (by rw [HSTEP.out, hl, hd, decide_eq_true (show 0 < k by omega)]; simp)
              clear hl hd hk0
              go_wp2_with (first | (go_at_call 170; refine (HL.out).mono ?_; rintro e w2 ⟨rfl, n, rfl⟩) | (go_at_call 171; refine (HG.out _).mono ?_; rintro e w2 ⟨rfl, m, rfl⟩))
              go_roundw
              case rel => exact ⟨k + 1, by omega, HK1.out, HN.out, pw_below_drewN HB1.out _⟩
              case measure =>
                have h2 : (W1.drewN (n + m)).iterPos w.heap.size = k + 1 := by rw [drewN_pos]; simp [World.iterPos, HK1.out]
                rw [HMU.out, h2]; omega
            | false =>
              have HG := Lib.hid (fun n => digit_any (cn : Int) (W1.drewN n))
              rw [hd] at HG
              have HN : Hid (nameI s = false) := Lib.hid (by unfold nameI; rw [HSTEP.out, hl, hd]; simp)
              clear hl hd hk0
              go_wp2_with (first | (go_at_call 170; refine (HL.out).mono ?_; rintro e w2 ⟨rfl, n, rfl⟩) | (go_at_call 171; refine (HG.out _).mono ?_; rintro e w2 ⟨rfl, m, rfl⟩))
              go_ret
              exact ⟨by rw [HN.out]; rfl, pw_below_drewN HB1.out _⟩
      · have hnext : ∀ ty, (Instr.next (.pointer (some ⟨w.heap.size, 0, none⟩)) true ty).run Tryd.prog wr = _ := fun ty => Lib.run_next_any_at wr w.heap.size s k ty hkk hp
        have hhi := (decode_high s k hp (by omega)).1
        have hb1 : Below w.heap.size w (wr.iterAt w.heap.size s (k + (Utf8.decode s k).2)) := Lib.below_iterAt hb (Nat.le_refl _) s _
        have HN : Hid (nameI s = false) := Lib.hid (by
          have h1 : isLet ((s[k]'hp).toNat : Int) = false := by
            rw [Bool.eq_false_iff, Ne, isLet_iff]; omega
          have h2 : isDig ((s[k]'hp).toNat : Int) = false := by
            rw [Bool.eq_false_iff, Ne, isDig_iff]; omega
          unfold nameI
          rw [HEQ.out, HDR.out, nameB_cons, h1, h2]; simp)
        have HB1 := Lib.hid hb1
        generalize wr.iterAt w.heap.size s (k + (Utf8.decode s k).2) = W1 at *
        generalize (Utf8.decode s k).1 = r at *
        have hl : isLet (r : Int) = false := by rw [Bool.eq_false_iff, Ne, isLet_iff]; omega
        have hd : isDig (r : Int) = false := by rw [Bool.eq_false_iff, Ne, isDig_iff]; omega
        have HL := Lib.hid (letter_any (r : Int) W1)
        rw [hl] at HL
        have HG := Lib.hid (fun n => digit_any (r : Int) (W1.drewN n))
        rw [hd] at HG
        clear hl hd hhi ha hb1 hkk hb
        by_cases hk0 : k = 0
        · have hkz : ((k : Int) == 0) = true := by simpa using hk0
          clear hk0
          go_wp2_with (first | (go_at_call 170; refine (HL.out).mono ?_; rintro e w2 ⟨rfl, n, rfl⟩) | (go_at_call 171; refine (HG.out _).mono ?_; rintro e w2 ⟨rfl, m, rfl⟩))
          go_ret
          exact ⟨by rw [HN.out]; rfl, pw_below_drewN HB1.out n⟩
        · have hkz : ((k : Int) == 0) = false := by simpa using hk0
          clear hk0
          go_wp2_with (first | (go_at_call 170; refine (HL.out).mono ?_; rintro e w2 ⟨rfl, n, rfl⟩) | (go_at_call 171; refine (HG.out _).mono ?_; rintro e w2 ⟨rfl, m, rfl⟩))
          go_ret
          exact ⟨by rw [HN.out]; rfl, pw_below_drewN HB1.out _⟩
    · have hnext : ∀ ty, (Instr.next (.pointer (some ⟨w.heap.size, 0, none⟩)) true ty).run Tryd.prog wr = _ := fun ty => Lib.run_next_end_at wr w.heap.size s k ty hkk hp
      have HB1 := Lib.hid hb
      have HT : Hid (nameB 0 s.data.toList = true) := Lib.hid (by rw [HEQ.out, List.drop_eq_nil_of_le (by rw [data_length]; omega)]; rfl)
      clear hb
      by_cases h1 : 1 ≤ s.size
      · have h1i : decide ((1 : Int) ≤ (s.size : Int)) = true := decide_eq_true (by omega)
        by_cases h2 : s.size ≤ 64
        · have HN : Hid (nameI s = true) := Lib.hid (by unfold nameI; rw [HT.out]; simp [h1, h2])
          have h2i : decide ((s.size : Int) ≤ 64) = true := decide_eq_true (by omega)
          go_wp2
          go_ret
          exact ⟨by rw [HN.out]; rfl, HB1.out⟩
        · have HN : Hid (nameI s = false) := Lib.hid (by unfold nameI; rw [decide_eq_false h2]; simp)
          have h2i : decide ((s.size : Int) ≤ 64) = false := decide_eq_false (by omega)
          go_wp2
          go_ret
          exact ⟨by rw [HN.out]; rfl, HB1.out⟩
      · have h1i : decide ((1 : Int) ≤ (s.size : Int)) = false := decide_eq_false (by omega)
        have HN : Hid (nameI s = false) := Lib.hid (by unfold nameI; rw [decide_eq_false h1]; simp)
        go_wp2
        go_ret
        exact ⟨by rw [HN.out]; rfl, HB1.out⟩
end Go.Proofs.YtojocffjajcdmaaDoor
