import Derived.Test.YtjfggmkfnofldaaD2
namespace Go.Proofs.Ytjfggmkfnofldaa
open Go.RowKit
set_option linter.unusedVariables false

theorem LabIs.len {w : World} {e : Ent} {ls : List Lab} (h : LabIs w e ls) : ls.length ≤ 9000000000000000000 := by
  have := h.2.1; have := h.2.2.2; omega
theorem LabIs.below {w w' : World} {e : Ent} {ls : List Lab} (h : LabIs w e ls) (hb : Below w.heap.size w w') : LabIs w' e ls := ⟨h.1.below hb, h.2⟩

set_option maxHeartbeats 1000000 in
theorem same_any (a b : Ent) (aa bb : AEnt) (w : World) (ha : EntA w a aa) (hb : EntA w b bb) :
    Calls Try.prog 18 #[.agg #[.int .i64 a.s, .int .i64 a.t, .slice a.A a.n a.c, .string a.x], .agg #[.int .i64 b.s, .int .i64 b.t, .slice b.A b.n b.c, .string b.x]] w fun e w' => e = .returned (.bool (decide (aa = bb))) ∧ Below w.heap.size w w' := by
  have hbB : Below w.heap.size w ((w.alloc (.cells #[.int .i64 a.s, .int .i64 a.t, .slice a.A a.n a.c, .string a.x] 34)).alloc (.cells #[.int .i64 b.s, .int .i64 b.t, .slice b.A b.n b.c, .string b.x] 34)) := ((Below.refl _ _).alloc (Nat.le_refl _) _).alloc (by simp) _
  have hl := lsame_any a.A b.A a.c b.c aa.ls bb.ls _ (ha.ls.below hbB).1 (hb.ls.below hbB).1 ha.ls.len hb.ls.len
  rw [ha.ls.2.1, hb.ls.2.1] at hl
  have HL := Lib.hid hl; clear hl
  by_cases e1 : a.s = b.s
  · have b1 : (a.s == b.s) = true := by simpa using e1
    by_cases e2 : a.t = b.t
    · have b2 : (a.t == b.t) = true := by simpa using e2
      by_cases e3 : a.x = b.x
      · have b3 : (a.x.toList == b.x.toList) = true := (Lib.bytes_beq_iff _ _).2 e3
        have hfin : decide (aa.ls = bb.ls) = decide (aa = bb) := by
          have h1 := ha.s; have h2 := ha.t; have h3 := ha.x; have h4 := hb.s; have h5 := hb.t; have h6 := hb.x
          rw [decide_eq_decide]
          constructor
          · intro h
            cases aa; cases bb; simp_all
          · rintro rfl; rfl
        have HF := Lib.hid hfin
        clear e1 e2 e3 ha hb hfin
        go_enter Try.func18, Try.ntmps18
        go_wp2_with fail
        refine (HL.out).mono ?_
        rintro e w1 ⟨rfl, hb1⟩
        go_wp2
        go_ret
        exact ⟨by rw [← HF.out]; rfl, thenB hbB hb1⟩
      · have b3 : (a.x.toList == b.x.toList) = false := (Lib.bytes_beq_false_iff _ _).2 e3
        have hfin : decide (aa = bb) = false := by
          rw [decide_eq_false_iff_not]; rintro rfl; exact e3 (ha.x.trans hb.x.symm)
        have HF := Lib.hid hfin
        clear e1 e2 e3 ha hb hfin
        go_enter Try.func18, Try.ntmps18
        go_wp2
        go_ret
        exact ⟨by rw [HF.out]; rfl, hbB⟩
    · have b2 : (a.t == b.t) = false := by simpa using e2
      have hfin : decide (aa = bb) = false := by
        rw [decide_eq_false_iff_not]; rintro rfl; exact e2 (ha.t.trans hb.t.symm)
      have HF := Lib.hid hfin
      clear e1 e2 ha hb hfin
      go_enter Try.func18, Try.ntmps18
      go_wp2
      go_ret
      exact ⟨by rw [HF.out]; rfl, hbB⟩
  · have b1 : (a.s == b.s) = false := by simpa using e1
    have hfin : decide (aa = bb) = false := by
      rw [decide_eq_false_iff_not]; rintro rfl; exact e1 (ha.s.trans hb.s.symm)
    have HF := Lib.hid hfin
    clear e1 ha hb hfin
    go_enter Try.func18, Try.ntmps18
    go_wp2
    go_ret
    exact ⟨by rw [HF.out]; rfl, hbB⟩

/-- A row of entries that says xs. -/
structure RowA (w : World) (A : Option Addr) (es : List Ent) (xs : List AEnt) : Prop where
  cells : RowCells w A (ecells es)
  len : es.length = xs.length
  ents : ∀ i (h : i < es.length) (h' : i < xs.length), EntA w es[i] xs[i]
theorem RowA.below {w w' : World} {A : Option Addr} {es : List Ent} {xs : List AEnt} (h : RowA w A es xs) (hb : Below w.heap.size w w') : RowA w' A es xs :=
  ⟨h.cells.below hb, h.len, fun i h1 h2 => (h.ents i h1 h2).below hb⟩

def SamesRel (xs ys : List AEnt) (w : World) (v5 : Value) (wr : World) : Prop := ∃ k : Nat, v5 = .int .i64 k ∧ k ≤ xs.length ∧ xs.take k = ys.take k ∧ Below w.heap.size w wr

set_option maxHeartbeats 1000000 in
theorem sames_any (A B : Option Addr) (c d : Nat) (es fs : List Ent) (xs ys : List AEnt) (w : World) (hr : RowA w A es xs) (hq : RowA w B fs ys) (hs : es.length ≤ 9000000000000000000) (hs2 : fs.length ≤ 9000000000000000000) :
    Calls Try.prog 13 #[.slice A es.length c, .slice B fs.length d] w fun e w' => e = .returned (.bool (decide (xs = ys))) ∧ Below w.heap.size w w' := by
  by_cases hne : es.length = fs.length
  · have hne2 : ((es.length : Int) != (fs.length : Int)) = false := by simp [hne]
    have hne3 : (es.length != fs.length) = false := by simp [hne]
    have HNE := Lib.hid hne; clear hne
    have HLA := Lib.hid hr.len
    have HLB := Lib.hid hq.len
    go_enter Try.func13, Try.ntmps13
    go_wp2
    go_loopw [5] (fun v5 wr => SamesRel xs ys w v5 wr) (fun v5 _ => es.length - (intOf v5).toNat)
    case atStart => exact ⟨0, rfl, Nat.zero_le _, rfl, Below.refl _ _⟩
    case round =>
      obtain ⟨k, rfl, hk, htk, hb⟩ := hrel
      have HT := Lib.hid htk; clear htk
      have hk' : k ≤ es.length := by have := HLA.out; omega
      clear hk
      by_cases hlt : k < es.length
      · have hk2 : k < fs.length := by have := HNE.out; omega
        have hk3 : k < xs.length := by have := HLA.out; omega
        have hk4 : k < ys.length := by have := HLB.out; omega
        have ea := (hr.ents k hlt hk3).below hb
        have eb := (hq.ents k hk2 hk4).below hb
        obtain ⟨b, o, rfl, hc⟩ := hr.cells (by rw [ecells_length]; omega)
        obtain ⟨b', o', rfl, hc'⟩ := hq.cells (by rw [ecells_length]; omega)
        obtain ⟨p0, p1, p2, p3⟩ := (entCells_of (fun j u hu => keepc hb (hc j u hu)) k hlt)
        obtain ⟨q0, q1, q2, q3⟩ := (entCells_of (fun j u hu => keepc hb (hc' j u hu)) k hk2)
        have HE : Hid (xs[k] = ys[k] → xs.take (k + 1) = ys.take (k + 1)) := Lib.hid (fun he => by rw [List.take_succ_eq_append_getElem hk3, List.take_succ_eq_append_getElem hk4, HT.out, he])
        have HN : Hid (¬ xs[k] = ys[k] → decide (xs = ys) = false) := Lib.hid (fun he => by
          rw [decide_eq_false_iff_not]; rintro rfl; exact he rfl)
        clear hc hc' hr hq
        have hi1 : (k : Int) < (es.length : Int) := by omega
        have hi2 : (k : Int) < (fs.length : Int) := by omega
        have hi3 : (0 : Int) ≤ (k : Int) := by omega
        generalize xs[k] = x at *
        generalize ys[k] = y at *
        generalize es[k] = ex at *
        generalize fs[k] = ey at *
        have hcall := same_any ex ey x y wr.drew (ea.below (Below.refl _ _).drew) (eb.below (Below.refl _ _).drew)
        have HC := Lib.hid hcall
        clear ea eb hcall
        go_wp2_with fail
        go_region_law
          (first
            | (go_simp; go_at_call 18; refine (HC.out).mono ?_; rintro e w2 ⟨rfl, hb2⟩))
        all_goals
          have hbb := thenB hb (undrew hb2)
          clear p0 p1 p2 p3 q0 q1 q2 q3 hb2 hb hi1 hi2 hi3
          cases hdd : decide (x = y) with
          | true =>
            have HX := Lib.hid (of_decide_eq_true hdd); clear hdd
            go_wp2_with fail
            go_roundw
            case rel => exact ⟨k + 1, by go_num, by omega, HE.out HX.out, hbb⟩
            case measure => simp [intOf]; omega
          | false =>
            have HX := Lib.hid (of_decide_eq_false hdd); clear hdd
            go_wp2_with fail
            go_ret
            exact ⟨by rw [HN.out HX.out]; rfl, hbb⟩
      · have hfin : decide (xs = ys) = true := by
          rw [decide_eq_true_iff]
          have := HT.out
          have h1 := HLA.out; have h2 := HLB.out; have h3 := HNE.out
          obtain rfl : k = xs.length := by omega
          exact take_eq_all (by omega) this
        have HF := Lib.hid hfin; clear hfin
        go_wp2
        go_ret
        exact ⟨by rw [HF.out]; rfl, hb⟩
  · have hne2 : ((es.length : Int) != (fs.length : Int)) = true := by simpa using (by omega : ¬ (es.length : Int) = fs.length)
    have hne3 : (es.length != fs.length) = true := by simpa using hne
    have hfin : decide (xs = ys) = false := by rw [decide_eq_false_iff_not]; rintro rfl; exact hne (hr.len.trans hq.len.symm)
    have HF := Lib.hid hfin; clear hfin hne
    go_enter Try.func13, Try.ntmps13
    go_wp2
    go_ret
    exact ⟨by rw [HF.out]; rfl, Below.refl _ _⟩
end Go.Proofs.Ytjfggmkfnofldaa
