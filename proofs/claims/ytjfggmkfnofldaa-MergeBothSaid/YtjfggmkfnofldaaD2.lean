import Derived.Test.YtjfggmkfnofldaaD1
import Derived.Lib.SlicesS
namespace Go.Proofs.Ytjfggmkfnofldaa
open Go.RowKit
set_option linter.unusedVariables false

def MOrdRel (nw : Bool) (w : World) (es : List Ent) (v9 : Value) (wr : World) : Prop := ∃ k : Nat, v9 = .int .i64 k ∧ (k + 1 ≤ es.length ∨ k = 0) ∧ ordTo nw es (k + 1) ∧ Below w.heap.size w wr

set_option maxHeartbeats 1000000 in
theorem ord_any (A : Option Addr) (c : Nat) (nw : Bool) (es : List Ent) (w : World) (hr : RowCells w A (ecells es)) (hs : es.length ≤ 9000000000000000000) :
    Calls Try.prog 19 #[.slice A es.length c, .bool nw] w fun e w' => e = .returned (.bool (ordB nw es)) ∧ Below w.heap.size w w' := by
  go_enter Try.func19, Try.ntmps19
  go_wp2
  go_loopw [9] (fun v9 wr => MOrdRel nw w es v9 wr) (fun v9 _ => es.length - (intOf v9).toNat)
  case atStart => exact ⟨0, rfl, .inr rfl, fun i h h1 => by omega, Below.refl _ _⟩
  case round =>
    obtain ⟨k, rfl, hk2, ho, hb⟩ := hrel
    have HO := Lib.hid ho; clear ho
    by_cases hlt : k + 1 < es.length
    · have hk0 : 0 < (ecells es).length := by rw [ecells_length]; omega
      obtain ⟨b, o, rfl, hc⟩ := hr hk0
      have e1 := (entCells_of (fun j u hu => keepc hb (hc j u hu)) (k + 1) hlt)
      have e0 := (entCells_of (fun j u hu => keepc hb (hc j u hu)) k (by omega))
      have HE : Hid (entFirst nw es[k + 1] es[k] = firstE nw es[k + 1].s es[k + 1].t es[k].s es[k].t) := Lib.hid rfl
      have HK : Hid (entFirst nw es[k + 1] es[k] = false → ordTo nw es (k + 1 + 1)) := Lib.hid (fun hf i h h1 => by
        rcases Nat.lt_or_ge (i + 1) (k + 1) with h2 | h2
        · exact HO.out i h h2
        · obtain rfl : i = k := by omega
          exact hf)
      have HN : Hid (entFirst nw es[k + 1] es[k] = true → ordB nw es = false) := Lib.hid (fun hf => by
        cases hq : ordB nw es with
        | false => rfl
        | true =>
          have h3 := (ordB_iff nw es).1 hq k (by omega)
          rw [h3] at hf; cases hf)
      clear hc hr
      obtain ⟨p0, p1, p2, p3⟩ := e1
      obtain ⟨q0, q1, q2, q3⟩ := e0
      generalize es[k + 1] = x at *
      generalize es[k] = y at *
      go_wp2_with fail
      have hw1 : IntKind.i64.wrap ((k : Int) + 1) = (k : Int) + 1 := wrap_in _ (by omega) (by omega)
      have hw2 : (k : Int) + 1 < (es.length : Int) := by omega
      have hw3 : (0 : Int) ≤ (k : Int) + 1 := by omega
      have hw4 : (k : Int) < (es.length : Int) := by omega
      go_region_law
        (first
          | (go_simp; go_at_call 33; refine (first_any _ _ _ _ _ _ _ _ _ _ _ _ _ _).mono ?_; rintro e w2 ⟨rfl, hb2⟩))
      all_goals
        have hbb := thenB hb (undrew hb2)
        clear hw1 hw2 hw3 hw4 p0 p1 p2 p3 q0 q1 q2 q3 hb2 hb
        cases hf : firstE nw x.s x.t y.s y.t with
        | true =>
          have HF := Lib.hid hf; clear hf
          go_wp2_with fail
          go_ret
          exact ⟨by rw [HN.out (HE.out.trans HF.out)]; rfl, hbb⟩
        | false =>
          have HF := Lib.hid hf; clear hf
          go_wp2_with fail
          go_roundw
          case rel => exact ⟨k + 1, by go_num, .inl (by omega), HK.out (HE.out.trans HF.out), hbb⟩
          case measure => simp [intOf]; omega
    · have hfin : ordB nw es = true := (ordB_iff nw es).2 fun i h => HO.out i h (by omega)
      have HF := Lib.hid hfin; clear hfin
      go_wp2
      go_ret
      exact ⟨by rw [HF.out]; rfl, hb⟩

/-- Entries by what they say. -/
structure AEnt where
  s : Int
  t : Int
  ls : List Lab
  x : ByteArray
deriving DecidableEq
structure EntA (w : World) (e : Ent) (a : AEnt) : Prop where
  s : e.s = a.s
  t : e.t = a.t
  x : e.x = a.x
  ls : LabIs w e a.ls
theorem EntA.below {w w' : World} {e : Ent} {a : AEnt} (h : EntA w e a) (hb : Below w.heap.size w w') : EntA w' e a := ⟨h.s, h.t, h.x, h.ls.1.below hb, h.ls.2⟩

theorem lcells_get (ls : List Lab) (i : Nat) (h : i < ls.length) : (lcells ls)[i * 2]? = some (.string ls[i].1) ∧ (lcells ls)[i * 2 + 1]? = some (.string ls[i].2) := by
  induction ls generalizing i with
  | nil => simp at h
  | cons a l ih =>
    have e : lcells (a :: l) = .string a.1 :: .string a.2 :: lcells l := rfl
    cases i with
    | zero => rw [e]; simp
    | succ i =>
      have := ih i (by simpa using h)
      rw [e, show (i + 1) * 2 = i * 2 + 1 + 1 from by omega]
      simpa using this
def SameRel (ls ms : List Lab) (w : World) (v5 : Value) (wr : World) : Prop := ∃ k : Nat, v5 = .int .i64 k ∧ k ≤ ls.length ∧ ls.take k = ms.take k ∧ Below w.heap.size w wr
theorem bytes_ne {a b : ByteArray} (h : ¬ a = b) : ¬ a.toList = b.toList := fun e => h (by
  rw [ByteArray.toList_eq, ByteArray.toList_eq] at e
  exact ByteArray.ext (Array.toList_inj.mp e))
theorem take_eq_all {α : Type} {ls ms : List α} (hl : ls.length = ms.length) (h : ls.take ls.length = ms.take ls.length) : ls = ms := by
  rw [List.take_length] at h; rw [h, hl, List.take_length]

set_option maxHeartbeats 1000000 in
theorem lsame_any (A B : Option Addr) (c d : Nat) (ls ms : List Lab) (w : World) (hr : RowCells w A (lcells ls)) (hq : RowCells w B (lcells ms)) (hs : ls.length ≤ 9000000000000000000) (hs2 : ms.length ≤ 9000000000000000000) :
    Calls Try.prog 32 #[.slice A ls.length c, .slice B ms.length d] w fun e w' => e = .returned (.bool (decide (ls = ms))) ∧ Below w.heap.size w w' := by
  by_cases hne : ls.length = ms.length
  · have hne2 : ((ls.length : Int) != (ms.length : Int)) = false := by simp [hne]
    have hne3 : (ls.length != ms.length) = false := by simp [hne]
    have HNE := Lib.hid hne; clear hne
    go_enter Try.func32, Try.ntmps32
    go_wp2
    go_loopw [5] (fun v5 wr => SameRel ls ms w v5 wr) (fun v5 _ => ls.length - (intOf v5).toNat)
    case atStart => exact ⟨0, rfl, Nat.zero_le _, rfl, Below.refl _ _⟩
    case round =>
      obtain ⟨k, rfl, hk, htk, hb⟩ := hrel
      have HT := Lib.hid htk; clear htk
      by_cases hlt : k < ls.length
      · have hk2 : k < ms.length := by have := HNE.out; omega
        obtain ⟨b, o, rfl, hc⟩ := hr (by rw [lcells_length]; omega)
        obtain ⟨b', o', rfl, hc'⟩ := hq (by rw [lcells_length]; omega)
        obtain ⟨a0, a1⟩ := lcells_get ls k hlt
        obtain ⟨a2, a3⟩ := lcells_get ms k hk2
        have p0 := keepc hb (hc _ _ a0)
        have p1 := keepc hb (hc _ _ a1)
        have q0 := keepc hb (hc' _ _ a2)
        have q1 := keepc hb (hc' _ _ a3)
        rw [← Nat.add_assoc] at p1 q1
        have HE : Hid (ls[k] = ms[k] → ls.take (k + 1) = ms.take (k + 1)) := Lib.hid (fun he => by rw [List.take_succ_eq_append_getElem hlt, List.take_succ_eq_append_getElem hk2, HT.out, he])
        have HN : Hid (¬ ls[k] = ms[k] → decide (ls = ms) = false) := Lib.hid (fun he => by
          rw [decide_eq_false_iff_not]; rintro rfl; exact he rfl)
        clear hc hc' hr hq a0 a1 a2 a3
        have hi1 : (k : Int) < (ls.length : Int) := by omega
        have hi2 : (k : Int) < (ms.length : Int) := by omega
        generalize ls[k] = x at *
        generalize ms[k] = y at *
        obtain ⟨x1, x2⟩ := x
        obtain ⟨y1, y2⟩ := y
        by_cases e1 : x1 = y1
        · by_cases e2 : x2 = y2
          · subst e1; subst e2
            go_wp2_with fail
            go_region
            go_wp2_with fail
            go_roundw
            case rel => exact ⟨k + 1, by go_num, by omega, HE.out trivial, hb.drew⟩
            case measure => simp [intOf]; omega
          · subst e1
            have b1 : (x2.toList == y2.toList) = false := (Lib.bytes_beq_false_iff _ _).2 e2
            have b2 : (x2.toList != y2.toList) = true := by simp [bne, b1]
            have HQ := Lib.hid e2; clear e2
            go_wp2_with fail
            go_region
            go_wp2_with fail
            go_ret
            exact ⟨by rw [HN.out (fun e => HQ.out (congrArg Prod.snd e))]; rfl, hb.drew⟩
        · have b1 : (x1.toList == y1.toList) = false := (Lib.bytes_beq_false_iff _ _).2 e1
          have b2 : (x1.toList != y1.toList) = true := by simp [bne, b1]
          have HQ := Lib.hid e1; clear e1
          go_wp2_with fail
          go_region
          go_wp2_with fail
          go_ret
          exact ⟨by rw [HN.out (fun e => HQ.out (congrArg Prod.fst e))]; rfl, hb.drew⟩
      · have hfin : decide (ls = ms) = true := by
          rw [decide_eq_true_iff]
          have := HT.out
          obtain rfl : k = ls.length := by omega
          exact take_eq_all HNE.out this
        have HF := Lib.hid hfin; clear hfin
        go_wp2
        go_ret
        exact ⟨by rw [HF.out]; rfl, hb⟩
  · have hne2 : ((ls.length : Int) != (ms.length : Int)) = true := by simpa using (by omega : ¬ (ls.length : Int) = ms.length)
    have hne3 : (ls.length != ms.length) = true := by simpa using hne
    have hfin : decide (ls = ms) = false := by rw [decide_eq_false_iff_not]; rintro rfl; exact hne rfl
    have HF := Lib.hid hfin; clear hfin hne
    go_enter Try.func32, Try.ntmps32
    go_wp2
    go_ret
    exact ⟨by rw [HF.out]; rfl, Below.refl _ _⟩
end Go.Proofs.Ytjfggmkfnofldaa
