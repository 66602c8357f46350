/- The reference's Right of a chunk. -/
import Derived.Test.YtojocffjajcdmaaDoorLX
import Derived.Test.YtojocffjajcdmaaDoorLB
import Derived.Lib.QuietBelow
import Derived.BigQuiet
namespace Go.Proofs.YtojocffjajcdmaaDoor.RF
open Go Go.RowKit Go.Shelf Go.Sort Go.Proofs.YtojocffjajcdmaaDoor Go.Proofs.YtojocffjajcdmaaDoorW.PrintWords Go.Proofs.YtojocffjajcdmaaDoorW.PrintLast Go.Proofs.YtojocffjajcdmaaDoorW.PrintMore PChunkAll
set_option linter.unusedVariables false
set_option linter.unusedSimpArgs false

/-- Between two rounds of the reference. -/
structure RR (w : World) (mb : Nat) (A1 : Option Addr) (c1 : Nat) (ls : List S112) (A2 : Option Addr) (c2 : Nat) (rows : List S71) (i : Nat) (W : World) : Prop where
  ch : Blk W w.heap.size #[.slice A1 ls.length c1, .slice A2 rows.length c2] 50
  met : SetIs W mb i (fun k => (sn [] ((pairsL z71 rows).take i)).contains k)
  ok : okP ls [] ((pairsL z71 rows).take i) = true
  low : Below w.heap.size w W
  mb : w.heap.size < mb
theorem RR.grown {w : World} {mb : Nat} {A1 : Option Addr} {c1 : Nat} {ls : List S112} {A2 : Option Addr} {c2 : Nat} {rows : List S71} {i : Nat} {W W' : World} (h : RR w mb A1 c1 ls A2 c2 rows i W) (hg : W.grownBy W' none) : RR w mb A1 c1 ls A2 c2 rows i W' :=
  ⟨Blk.grown h.ch hg (fun e => by cases e), h.met.kept hg (fun e => by cases e), h.ok, h.low.grown hg h.low.size (fun k e => by cases e), h.mb⟩
theorem RR.next {w : World} {mb : Nat} {A1 : Option Addr} {c1 : Nat} {ls : List S112} {A2 : Option Addr} {c2 : Nat} {rows : List S71} {i : Nat} {W W' : World} (h : RR w mb A1 c1 ls A2 c2 rows i W) (hi : i < rows.length)
    (hS : SetIs W' mb (i + 1) (fun j => if j = rows[i].f0 then true else (sn [] ((pairsL z71 rows).take i)).contains j)) (hg : W.grownBy W' (some mb))
    (hok : okAt ls (sn [] ((pairsL z71 rows).take i)) (prevR z71 rows i) rows[i] = true) : RR w mb A1 c1 ls A2 c2 rows (i + 1) W' := by
  have hmb := h.mb
  refine ⟨Blk.grown h.ch hg (fun e => by injection e with e; omega), ?_, by rw [pairsL_take z71 rows i hi, okP_snoc, h.ok, hok]; rfl, h.low.grown hg h.low.size (fun k e => by cases e; omega), hmb⟩
  refine hS.ext fun k => ?_
  rw [pairsL_take z71 rows i hi, sn_snoc, List.contains_cons]
  by_cases e : k = rows[i].f0
  · subst e; simp
  · have : (k == rows[i].f0) = false := by simpa using e
    simp [e, this]

end Go.Proofs.YtojocffjajcdmaaDoor.RF
/- slices.MinFunc and slices.MaxFunc of rows, by their numbers. -/
namespace Go.Proofs.YtojocffjajcdmaaDoor.RF
open Go Go.RowKit Go.Shelf Go.Sort Go.Proofs.YtojocffjajcdmaaDoor Go.Proofs.YtojocffjajcdmaaDoorW.PrintWords Go.Proofs.YtojocffjajcdmaaDoorW.PrintLast Go.Proofs.YtojocffjajcdmaaDoorW.PrintMore PChunkAll
set_option linter.unusedVariables false
set_option linter.unusedSimpArgs false

theorem bys_any (x y : S71) (w : World) : Calls Tryd.prog 97 #[rowV x, rowV y] w fun e w' => e = .returned (.int .i64 (cmpI x.f0 y.f0)) ∧ Below w.heap.size w w' := by
  go_enter Tryd.func97, Tryd.ntmps97
  have b1 : Blk ((w.alloc (.cells (rowC x) 71)).alloc (.cells (rowC y) 71)) w.heap.size (rowC x) 71 := (Blk.new _ _ _ _ rfl).alloc _
  have b2 : Blk ((w.alloc (.cells (rowC x) 71)).alloc (.cells (rowC y) 71)) (w.heap.size + 1) (rowC y) 71 := Blk.new _ _ _ _ (by simp)
  have c1 := b1.cell 0 _ rfl
  have c2 := b2.cell 0 _ rfl
  go_wp2_with (go_at_call 98; refine (compare_any x.f0 y.f0 _).mono ?_; rintro e w' ⟨rfl, rfl⟩)
  go_ret
  exact ⟨rfl, ((Below.refl _ _).alloc (Nat.le_refl _) _).alloc (by simp) _⟩

/-- The row of the least number, the first of its like. -/
def minG (h : S71) (l : List S71) : S71 := l.foldl (fun m x => if decide (cmpI x.f0 m.f0 < 0) then x else m) h
theorem minG_snoc (h x : S71) (l : List S71) : minG h (l ++ [x]) = if decide (cmpI x.f0 (minG h l).f0 < 0) then x else minG h l := by
  unfold minG; rw [List.foldl_append]; rfl
set_option maxRecDepth 100000 in
set_option maxHeartbeats 4000000 in
theorem minF_any (A : Option Addr) (c : Nat) (rows : List S71) (w : World) (hR : RowC w A (rcells rows)) (h0 : 0 < rows.length) (hm : rows.length < 4611686018427387904) :
    Calls Tryd.prog 99 #[.slice A rows.length c, .func (.func 97) #[] #[]] w fun e w' => e = .returned (rowV (minG (rows.headD z71) rows)) ∧ Below w.heap.size w w' := by
  obtain ⟨b, o, rfl, hc⟩ := hR (by rw [rcells_len]; omega)
  obtain ⟨p0, p1, p2⟩ := rcells_at hc 0 h0
  rw [Nat.zero_mul, Nat.add_zero] at p0 p1 p2
  have HC := Lib.hid hc
  have hd : rows.headD z71 = rows[0] := by cases rows with | nil => simp at h0 | cons a l => rfl
  have d0 : decide ((rows.length : Int) < 1) = false := decide_eq_false (by omega)
  have d1 : (0 : Int) < (rows.length : Int) := by omega
  have HT1 : Hid (minG rows[0] (rows.take 1) = rows[0]) := by
    show _ = _
    rw [List.take_one, List.head?_eq_getElem?, List.getElem?_eq_getElem h0]
    show minG rows[0] [rows[0]] = rows[0]
    unfold minG; simp
  rw [hd]
  obtain ⟨h, hh⟩ : ∃ h, h = rows[0] := ⟨_, rfl⟩
  rw [← hh] at p0 p1 p2 HT1 ⊢
  have q0 := pw_cell_below ((Below.refl _ _).alloc (Nat.le_refl _) (.cells #[.int .i64 0, .int .i64 0, .string ⟨#[]⟩] 71)) p0
  have q1 := pw_cell_below ((Below.refl _ _).alloc (Nat.le_refl _) (.cells #[.int .i64 0, .int .i64 0, .string ⟨#[]⟩] 71)) p1
  have q2 := pw_cell_below ((Below.refl _ _).alloc (Nat.le_refl _) (.cells #[.int .i64 0, .int .i64 0, .string ⟨#[]⟩] 71)) p2
  clear hd hh hc hR
  go_enter Tryd.func99, Tryd.ntmps99
  go_wp2
  go_loopw [6] (fun v6 wr => ∃ i : Nat, v6 = .int .i64 (i : Int) ∧ 1 ≤ i ∧ i ≤ rows.length ∧ Hid (Blk wr (w.heap.size + 1) (rowC (minG h (rows.take i))) 71 ∧ Blk wr w.heap.size #[.int .i64 0, .int .i64 0, .string ⟨#[]⟩] 71 ∧ Below w.heap.size w wr)) (fun v6 _ => rows.length - (intOf v6).toNat)
  case atStart =>
    refine ⟨1, rfl, Nat.le_refl _, h0, ?_⟩
    show _ ∧ _
    rw [HT1.out]
    exact ⟨Blk.new _ _ _ _ (by simp), (Blk.new _ _ _ _ rfl).alloc _, ((Below.refl _ _).alloc (Nat.le_refl _) _).alloc (by simp) _⟩
  case round =>
    obtain ⟨i, rfl, hi1, hi, HI⟩ := hrel
    by_cases hlt : i < rows.length
    · have d3 : decide ((i : Int) < (rows.length : Int)) = true := decide_eq_true (by omega)
      have hltz : (i : Int) < (rows.length : Int) := by omega
      obtain ⟨p0, p1, p2⟩ := rcells_at HC.out i hlt
      have hb := HI.out.2.2
      have C0 := fun d os => cell_regrown (pw_cell_below hb p0) d os
      have C1 := fun d os => cell_regrown (pw_cell_below hb p1) d os
      have C2 := fun d os => cell_regrown (pw_cell_below hb p2) d os
      have hmb := HI.out.1
      have M0 := fun d os => cell_regrown (hmb.cell 0 _ rfl) d os
      have M1 := fun d os => cell_regrown (hmb.cell 1 _ rfl) d os
      have M2 := fun d os => cell_regrown (hmb.cell 2 _ rfl) d os
      have HNX : Hid (minG h (rows.take (i + 1)) = if decide (cmpI rows[i].f0 (minG h (rows.take i)).f0 < 0) then rows[i] else minG h (rows.take i)) := by
        show _ = _
        rw [List.take_succ_eq_append_getElem hlt, minG_snoc]
      have cB := fun d os => Calls.regrown_of (bys_any rows[i] (minG h (rows.take i)) (Go.Sort.grow (redrawn wr d) os))
      have HP := Lib.hid (And.intro p0 (And.intro p1 p2))
      clear hb hmb p0 p1 p2
      generalize rows[i] = x at *
      generalize hmg : minG h (rows.take i) = m at *
      go_wp2_with fail
      refine wp_region_quiet_below (by kernel_rfl) (by kernel_rfl) ?_
      repeat (quiet_step ((exact cB _ _)))
      refine wpQuiet_nil ?_
      intro _ hw'
      obtain ⟨⟨dq, osq⟩, hw''⟩ := hw'
      subst hw''
      have hb3 := below_regrown wr dq osq
      have HB3 := Lib.hid hb3
      have c0 := C0 dq osq
      have c1 := C1 dq osq
      have c2 := C2 dq osq
      have k3 := Blk.grown HI.out.1 (grown_below hb3) (fun e => by cases e)
      have f0 := k3.frozen 0
      have f1 := k3.frozen 1
      have f2 := k3.frozen 2
      have m0 := k3.cell 0 _ rfl
      have m1 := k3.cell 1 _ rfl
      have m2 := k3.cell 2 _ rfl
      have HI3 : Hid (Blk (grow (redrawn wr dq) osq) (w.heap.size + 1) (rowC m) 71 ∧ Blk (grow (redrawn wr dq) osq) w.heap.size #[.int .i64 0, .int .i64 0, .string ⟨#[]⟩] 71 ∧ Below w.heap.size w (grow (redrawn wr dq) osq)) :=
        ⟨k3, Blk.grown HI.out.2.1 (grown_below hb3) (fun e => by cases e), HI.out.2.2.trans (hb3.mono HI.out.2.2.size)⟩
      clear k3 hb3 C0 C1 C2 M0 M1 M2 cB
      generalize grow (redrawn wr dq) osq = W3 at *
      have hw1 : IntKind.i64.wrap ((i : Int) + 1) = ((i + 1 : Nat) : Int) := by rw [IntKind.wrap_i64]; omega
      cases e : decide (cmpI x.f0 m.f0 < 0)
      · rw [e] at HNX
        go_wp2
        go_roundw
        case rel =>
          refine ⟨i + 1, by go_num, by omega, by omega, ?_⟩
          show _ ∧ _
          rw [HNX.out]
          exact HI3.out
        case measure => simp [intOf]; omega
      · rw [e] at HNX
        go_wp2
        go_roundw
        case rel =>
          refine ⟨i + 1, by go_num, by omega, by omega, ?_⟩
          show _ ∧ _
          rw [HNX.out]
          obtain ⟨g1, g2, g3⟩ := HI3.out
          exact ⟨set3 g1 _ _ _, ((g2.far _ _ (by simp)).far _ _ (by simp)).far _ _ (by simp), ((g3.setCell (p := ⟨w.heap.size + 1, 0, none⟩) (Nat.le_succ _) _).setCell (p := ⟨w.heap.size + 1, 1, none⟩) (Nat.le_succ _) _).setCell (p := ⟨w.heap.size + 1, 2, none⟩) (Nat.le_succ _) _⟩
        case measure => simp [intOf]; omega
    · have d3 : decide ((i : Int) < (rows.length : Int)) = false := decide_eq_false (by omega)
      obtain rfl : i = rows.length := by omega
      have hm1 := HI.out.1
      rw [List.take_length] at hm1
      have m0 := hm1.cell 0 _ rfl
      have m1 := hm1.cell 1 _ rfl
      have m2 := hm1.cell 2 _ rfl
      have hr1 := HI.out.2.1
      have r0 := hr1.cell 0 _ rfl
      have r1 := hr1.cell 1 _ rfl
      have r2 := hr1.cell 2 _ rfl
      have f0 := hr1.frozen 0
      have f1 := hr1.frozen 1
      have f2 := hr1.frozen 2
      have HR1 := Lib.hid hr1
      clear hm1 hr1 hlt
      obtain ⟨m, hmE⟩ : ∃ m, m = minG h rows := ⟨_, rfl⟩
      go_wp2
      subst hmE
      have B2 := set3 HR1.out (.int .i64 (minG h rows).f0) (.int .i64 (minG h rows).f1) (.string (minG h rows).f2)
      refine bodyPost_ret (results_cell_row rfl _ _ _ _ _ _ _ rfl B2.out Tryd.underlying71 rfl (by kernel_rfl)) rfl ?_
      exact ⟨rfl, ((HI.out.2.2.setCell (p := ⟨w.heap.size, 0, none⟩) (Nat.le_refl _) _).setCell (p := ⟨w.heap.size, 1, none⟩) (Nat.le_refl _) _).setCell (p := ⟨w.heap.size, 2, none⟩) (Nat.le_refl _) _⟩

/-- The row of the greatest number, the first of its like. -/
def maxG (h : S71) (l : List S71) : S71 := l.foldl (fun m x => if decide (0 < cmpI x.f0 m.f0) then x else m) h
theorem maxG_snoc (h x : S71) (l : List S71) : maxG h (l ++ [x]) = if decide (0 < cmpI x.f0 (maxG h l).f0) then x else maxG h l := by
  unfold maxG; rw [List.foldl_append]; rfl
set_option maxRecDepth 100000 in
set_option maxHeartbeats 4000000 in
theorem maxF_any (A : Option Addr) (c : Nat) (rows : List S71) (w : World) (hR : RowC w A (rcells rows)) (h0 : 0 < rows.length) (hm : rows.length < 4611686018427387904) :
    Calls Tryd.prog 100 #[.slice A rows.length c, .func (.func 97) #[] #[]] w fun e w' => e = .returned (rowV (maxG (rows.headD z71) rows)) ∧ Below w.heap.size w w' := by
  obtain ⟨b, o, rfl, hc⟩ := hR (by rw [rcells_len]; omega)
  obtain ⟨p0, p1, p2⟩ := rcells_at hc 0 h0
  rw [Nat.zero_mul, Nat.add_zero] at p0 p1 p2
  have HC := Lib.hid hc
  have hd : rows.headD z71 = rows[0] := by cases rows with | nil => simp at h0 | cons a l => rfl
  have d0 : decide ((rows.length : Int) < 1) = false := decide_eq_false (by omega)
  have d1 : (0 : Int) < (rows.length : Int) := by omega
  have HT1 : Hid (maxG rows[0] (rows.take 1) = rows[0]) := by
    show _ = _
    rw [List.take_one, List.head?_eq_getElem?, List.getElem?_eq_getElem h0]
    show maxG rows[0] [rows[0]] = rows[0]
    unfold maxG; simp
  rw [hd]
  obtain ⟨h, hh⟩ : ∃ h, h = rows[0] := ⟨_, rfl⟩
  rw [← hh] at p0 p1 p2 HT1 ⊢
  have q0 := pw_cell_below ((Below.refl _ _).alloc (Nat.le_refl _) (.cells #[.int .i64 0, .int .i64 0, .string ⟨#[]⟩] 71)) p0
  have q1 := pw_cell_below ((Below.refl _ _).alloc (Nat.le_refl _) (.cells #[.int .i64 0, .int .i64 0, .string ⟨#[]⟩] 71)) p1
  have q2 := pw_cell_below ((Below.refl _ _).alloc (Nat.le_refl _) (.cells #[.int .i64 0, .int .i64 0, .string ⟨#[]⟩] 71)) p2
  clear hd hh hc hR
  go_enter Tryd.func100, Tryd.ntmps100
  go_wp2
  go_loopw [6] (fun v6 wr => ∃ i : Nat, v6 = .int .i64 (i : Int) ∧ 1 ≤ i ∧ i ≤ rows.length ∧ Hid (Blk wr (w.heap.size + 1) (rowC (maxG h (rows.take i))) 71 ∧ Blk wr w.heap.size #[.int .i64 0, .int .i64 0, .string ⟨#[]⟩] 71 ∧ Below w.heap.size w wr)) (fun v6 _ => rows.length - (intOf v6).toNat)
  case atStart =>
    refine ⟨1, rfl, Nat.le_refl _, h0, ?_⟩
    show _ ∧ _
    rw [HT1.out]
    exact ⟨Blk.new _ _ _ _ (by simp), (Blk.new _ _ _ _ rfl).alloc _, ((Below.refl _ _).alloc (Nat.le_refl _) _).alloc (by simp) _⟩
  case round =>
    obtain ⟨i, rfl, hi1, hi, HI⟩ := hrel
    by_cases hlt : i < rows.length
    · have d3 : decide ((i : Int) < (rows.length : Int)) = true := decide_eq_true (by omega)
      have hltz : (i : Int) < (rows.length : Int) := by omega
      obtain ⟨p0, p1, p2⟩ := rcells_at HC.out i hlt
      have hb := HI.out.2.2
      have C0 := fun d os => cell_regrown (pw_cell_below hb p0) d os
      have C1 := fun d os => cell_regrown (pw_cell_below hb p1) d os
      have C2 := fun d os => cell_regrown (pw_cell_below hb p2) d os
      have hmb := HI.out.1
      have M0 := fun d os => cell_regrown (hmb.cell 0 _ rfl) d os
      have M1 := fun d os => cell_regrown (hmb.cell 1 _ rfl) d os
      have M2 := fun d os => cell_regrown (hmb.cell 2 _ rfl) d os
      have HNX : Hid (maxG h (rows.take (i + 1)) = if decide (0 < cmpI rows[i].f0 (maxG h (rows.take i)).f0) then rows[i] else maxG h (rows.take i)) := by
        show _ = _
        rw [List.take_succ_eq_append_getElem hlt, maxG_snoc]
      have cB := fun d os => Calls.regrown_of (bys_any rows[i] (maxG h (rows.take i)) (Go.Sort.grow (redrawn wr d) os))
      have HP := Lib.hid (And.intro p0 (And.intro p1 p2))
      clear hb hmb p0 p1 p2
      generalize rows[i] = x at *
      generalize hmg : maxG h (rows.take i) = m at *
      go_wp2_with fail
      refine wp_region_quiet_below (by kernel_rfl) (by kernel_rfl) ?_
      repeat (quiet_step ((exact cB _ _)))
      refine wpQuiet_nil ?_
      intro _ hw'
      obtain ⟨⟨dq, osq⟩, hw''⟩ := hw'
      subst hw''
      have hb3 := below_regrown wr dq osq
      have HB3 := Lib.hid hb3
      have c0 := C0 dq osq
      have c1 := C1 dq osq
      have c2 := C2 dq osq
      have k3 := Blk.grown HI.out.1 (grown_below hb3) (fun e => by cases e)
      have f0 := k3.frozen 0
      have f1 := k3.frozen 1
      have f2 := k3.frozen 2
      have m0 := k3.cell 0 _ rfl
      have m1 := k3.cell 1 _ rfl
      have m2 := k3.cell 2 _ rfl
      have HI3 : Hid (Blk (grow (redrawn wr dq) osq) (w.heap.size + 1) (rowC m) 71 ∧ Blk (grow (redrawn wr dq) osq) w.heap.size #[.int .i64 0, .int .i64 0, .string ⟨#[]⟩] 71 ∧ Below w.heap.size w (grow (redrawn wr dq) osq)) :=
        ⟨k3, Blk.grown HI.out.2.1 (grown_below hb3) (fun e => by cases e), HI.out.2.2.trans (hb3.mono HI.out.2.2.size)⟩
      clear k3 hb3 C0 C1 C2 M0 M1 M2 cB
      generalize grow (redrawn wr dq) osq = W3 at *
      have hw1 : IntKind.i64.wrap ((i : Int) + 1) = ((i + 1 : Nat) : Int) := by rw [IntKind.wrap_i64]; omega
      cases e : decide (0 < cmpI x.f0 m.f0)
      · rw [e] at HNX
        go_wp2
        go_roundw
        case rel =>
          refine ⟨i + 1, by go_num, by omega, by omega, ?_⟩
          show _ ∧ _
          rw [HNX.out]
          exact HI3.out
        case measure => simp [intOf]; omega
      · rw [e] at HNX
        go_wp2
        go_roundw
        case rel =>
          refine ⟨i + 1, by go_num, by omega, by omega, ?_⟩
          show _ ∧ _
          rw [HNX.out]
          obtain ⟨g1, g2, g3⟩ := HI3.out
          exact ⟨set3 g1 _ _ _, ((g2.far _ _ (by simp)).far _ _ (by simp)).far _ _ (by simp), ((g3.setCell (p := ⟨w.heap.size + 1, 0, none⟩) (Nat.le_succ _) _).setCell (p := ⟨w.heap.size + 1, 1, none⟩) (Nat.le_succ _) _).setCell (p := ⟨w.heap.size + 1, 2, none⟩) (Nat.le_succ _) _⟩
        case measure => simp [intOf]; omega
    · have d3 : decide ((i : Int) < (rows.length : Int)) = false := decide_eq_false (by omega)
      obtain rfl : i = rows.length := by omega
      have hm1 := HI.out.1
      rw [List.take_length] at hm1
      have m0 := hm1.cell 0 _ rfl
      have m1 := hm1.cell 1 _ rfl
      have m2 := hm1.cell 2 _ rfl
      have hr1 := HI.out.2.1
      have r0 := hr1.cell 0 _ rfl
      have r1 := hr1.cell 1 _ rfl
      have r2 := hr1.cell 2 _ rfl
      have f0 := hr1.frozen 0
      have f1 := hr1.frozen 1
      have f2 := hr1.frozen 2
      have HR1 := Lib.hid hr1
      clear hm1 hr1 hlt
      obtain ⟨m, hmE⟩ : ∃ m, m = maxG h rows := ⟨_, rfl⟩
      go_wp2
      subst hmE
      have B2 := set3 HR1.out (.int .i64 (maxG h rows).f0) (.int .i64 (maxG h rows).f1) (.string (maxG h rows).f2)
      refine bodyPost_ret (results_cell_row rfl _ _ _ _ _ _ _ rfl B2.out Tryd.underlying71 rfl (by kernel_rfl)) rfl ?_
      exact ⟨rfl, ((HI.out.2.2.setCell (p := ⟨w.heap.size, 0, none⟩) (Nat.le_refl _) _).setCell (p := ⟨w.heap.size, 1, none⟩) (Nat.le_refl _) _).setCell (p := ⟨w.heap.size, 2, none⟩) (Nat.le_refl _) _⟩
end Go.Proofs.YtojocffjajcdmaaDoor.RF
/- chunk.Bounds, and the reference's. -/
namespace Go.Proofs.YtojocffjajcdmaaDoor.RF
open Go Go.RowKit Go.Shelf Go.Sort Go.Proofs.YtojocffjajcdmaaDoor Go.Proofs.YtojocffjajcdmaaDoorW.PrintWords Go.Proofs.YtojocffjajcdmaaDoorW.PrintLast Go.Proofs.YtojocffjajcdmaaDoorW.PrintMore PChunkAll
set_option linter.unusedVariables false
set_option linter.unusedSimpArgs false

theorem results_tmp4 {fn : Func} {t u v x : Tmp} (h : fn.results = #[.tmp t, .tmp u, .tmp v, .tmp x]) (tmps : Array Value) (P : Program) (w : World) :
    (results fn tmps).run P w = .ok (.tuple #[tmps.getD t undef, tmps.getD u undef, tmps.getD v undef, tmps.getD x undef]) w := by
  simp [results, h]
theorem field71 (a b : Int) (s : ByteArray) (w : World) : (Instr.field 71 (.agg #[.int .i64 a, .int .i64 b, .string s]) 0).run Tryd.prog w = .ok (.int .i64 a) w := by kernel_rfl
/-- Least and greatest time, least and greatest number. -/
def bndV (ls : List S112) (rows : List S71) : Array Value :=
  if rightC ls rows = true then #[.int .i64 (rows.headD z71).f1, .int .i64 (rows.getD (rows.length - 1) z71).f1, .int .i64 (minG (rows.headD z71) rows).f0, .int .i64 (maxG (rows.headD z71) rows).f0]
  else #[.int .i64 0, .int .i64 0, .int .i64 0, .int .i64 0]
theorem rightC_pos {ls : List S112} {rows : List S71} (h : rightC ls rows = true) : 0 < rows.length ∧ rows.length ≤ 1000 := by
  unfold rightC at h
  simp only [Bool.and_eq_true, decide_eq_true_eq] at h
  omega
set_option maxRecDepth 100000 in
set_option maxHeartbeats 4000000 in
theorem cbounds_any (A1 : Option Addr) (c1 : Nat) (ls : List S112) (A2 : Option Addr) (c2 : Nat) (rows : List S71) (w : World) (hT : Tabs w) (hls : ls.length < 4398046511104) (hm : rows.length < 4611686018427387904)
    (hL : Kd.C k112 w A1 ls.length ls) (hR : RowC w A2 (rcells rows)) (hwf : ∀ x ∈ rows, (Lit.int .i64 x.f0).wf = true) :
    Calls Tryd.prog 35 #[chV A1 ls.length c1 A2 rows.length c2] w fun e w' => e = .returned (.tuple (bndV ls rows)) ∧ Below w.heap.size w w' := by
  have hb0 : Below w.heap.size w (w.alloc (.cells #[.slice A1 ls.length c1, .slice A2 rows.length c2] 53)) := (Below.refl _ _).alloc (Nat.le_refl _) _
  have HC := Lib.hid (cright_any A1 c1 ls A2 c2 rows (w.alloc (.cells #[.slice A1 ls.length c1, .slice A2 rows.length c2] 53)) (hT.below hb0) hls hm (Kd.C_below hL hb0) (hR.below hb0) hwf)
  have k0 : Blk (w.alloc (.cells #[.slice A1 ls.length c1, .slice A2 rows.length c2] 53)) w.heap.size #[.slice A1 ls.length c1, .slice A2 rows.length c2] 53 := Blk.new _ _ _ _ rfl
  have HR := Lib.hid hR
  clear hT hL hR hwf
  cases hr : rightC ls rows
  · rw [hr] at HC
    have HF : Hid (bndV ls rows = #[.int .i64 0, .int .i64 0, .int .i64 0, .int .i64 0]) := by show _ = _; unfold bndV; rw [hr]; rfl
    clear hr
    go_enter Tryd.func35, Tryd.ntmps35
    go_wp2_with (go_at_call 57; refine (HC.out).mono ?_; rintro e w1 ⟨rfl, hb⟩)
    refine bodyPost_ret (results_tmp4 rfl _ _ _) rfl ?_
    exact ⟨by rw [HF.out]; rfl, below_step hb0 hb⟩
  · rw [hr] at HC
    obtain ⟨h0, h1⟩ := rightC_pos hr
    have HF : Hid (bndV ls rows = #[.int .i64 (rows.headD z71).f1, .int .i64 (rows.getD (rows.length - 1) z71).f1, .int .i64 (minG (rows.headD z71) rows).f0, .int .i64 (maxG (rows.headD z71) rows).f0]) := by show _ = _; unfold bndV; rw [hr]; rfl
    clear hr
    go_enter Tryd.func35, Tryd.ntmps35
    obtain ⟨b, o, rfl, hc⟩ := HR.out (by rw [rcells_len]; omega)
    obtain ⟨j, hj⟩ : ∃ j, rows.length = j + 1 := ⟨rows.length - 1, by omega⟩
    have hjl : j < rows.length := by omega
    obtain ⟨p0, p1, p2⟩ := rcells_at hc 0 h0
    rw [Nat.zero_mul, Nat.add_zero] at p1
    obtain ⟨q0, q1, q2⟩ := rcells_at hc j hjl
    have e1 : rows.headD z71 = rows[0] := by cases rows with | nil => simp at h0 | cons a l => rfl
    have e2 : rows.getD (rows.length - 1) z71 = rows[j] := by rw [show rows.length - 1 = j by omega, List.getD_eq_getElem?_getD, List.getElem?_eq_getElem hjl]; rfl
    rw [e2] at HF
    have HMN := Lib.hid (fun W (hb : Below w.heap.size w W) => minF_any (some ⟨b, o, none⟩) c2 rows W (HR.out.below hb) h0 hm)
    have HMX := Lib.hid (fun W (hb : Below w.heap.size w W) => maxF_any (some ⟨b, o, none⟩) c2 rows W (HR.out.below hb) h0 hm)
    rw [← e1] at p1
    generalize rows.headD z71 = h at *
    generalize rows[j] = t at *
    have hw1 : IntKind.i64.wrap ((rows.length : Int) - 1) = (j : Int) := by rw [IntKind.wrap_i64]; omega
    have hw2 : wrap64 ((rows.length : Int) - 1) = (j : Int) := by rw [show (rows.length : Int) - 1 = (j : Int) by omega]; exact wrap64_nat j (by omega)
    have hjz : (j : Int) < (rows.length : Int) := by omega
    have h0z : (0 : Int) < (rows.length : Int) := by omega
    have HJ := Lib.hid hj
    have HCC := Lib.hid hc
    clear hj hc e1 e2 p0 p2 q0 q2
    go_wp2_with (go_at_call 57; refine (HC.out).mono ?_; rintro e w1 ⟨rfl, hb⟩; have hb1 := below_step hb0 hb; have k1 := Blk.grown k0 (grown_below hb) (fun e => by cases e); have c1' := k1.cell 1 _ rfl; have p1' := pw_cell_below hb1 p1; have q1' := pw_cell_below hb1 q1)
    go_quiet (fail)
    go_wp2
    have hb2 := pw_below_drewN hb1 nq
    have k2 := Blk.grown k1 (grown_below (pw_below_drewN (Below.refl _ _) nq)) (fun e => by cases e)
    have HB2 := Lib.hid hb2
    generalize w1.drewN nq = w2 at *
    have C1 := fun d os => cell_regrown (k2.cell 1 _ rfl) d os
    have cA := fun d os => Calls.regrown_of (HMN.out (Go.Sort.grow (redrawn w2 d) os) (HB2.out.trans ((below_regrown w2 d os).mono HB2.out.size)))
    have cB := fun d os => Calls.regrown_of (HMX.out (Go.Sort.grow (redrawn w2 d) os) (HB2.out.trans ((below_regrown w2 d os).mono HB2.out.size)))
    dsimp only [rowV] at cA cB
    have hf71 := field71
    refine wp_region_quiet_below (by kernel_rfl) (by kernel_rfl) ?_
    repeat (quiet_step ((first | (go_at_call 99; exact cA _ _) | (go_at_call 100; exact cB _ _))))
    refine wpQuiet_nil ?_
    intro _ hw'
    obtain ⟨⟨dq, osq⟩, hw''⟩ := hw'
    subst hw''
    go_wp2
    refine bodyPost_ret (results_tmp4 rfl _ _ _) rfl ?_
    exact ⟨by rw [HF.out]; rfl, HB2.out.trans ((below_regrown w2 dq osq).mono HB2.out.size)⟩
end Go.Proofs.YtojocffjajcdmaaDoor.RF
