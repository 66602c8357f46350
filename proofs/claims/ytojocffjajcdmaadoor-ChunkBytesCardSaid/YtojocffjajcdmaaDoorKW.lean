/- The reference's Zig; a chunk's bytes row by row, plainly. -/
import Derived.Test.YtojocffjajcdmaaDoorKZ
import Derived.Test.YtojocffjajcdmaaDoorKH
import Derived.Deep.RegionHeldLaw
import Derived.Test.YtojocffjajcdmaaDoorKY
import Derived.Test.YtojocffjajcdmaaDoorVx3
namespace Go.Proofs.YtojocffjajcdmaaDoor.RF
open Go Go.RowKit Go.Shelf Go.Sort Go.Proofs.YtojocffjajcdmaaDoor Go.Proofs.YtojocffjajcdmaaDoorW.PrintWords Go.Proofs.YtojocffjajcdmaaDoorW.PrintLast Go.Proofs.YtojocffjajcdmaaDoorW.PrintMore PChunkAll
set_option linter.unusedVariables false
set_option linter.unusedSimpArgs false

set_option maxHeartbeats 1000000 in
set_option maxRecDepth 100000 in
theorem rzig_any (d : Int) (w : World) (h1 : -36028797018963968 ≤ d) (h2 : d < 36028797018963968) : Calls Tryd.prog 153 #[.int .i64 d] w fun e w' => e = .returned (.int .i64 (zig d : Nat)) ∧ w' = w := by
  by_cases h : d < 0
  · have hd : decide (d < 0) = true := decide_eq_true h
    have e1 : IntKind.i64.wrap (-2 * d) = -2 * d := by rw [IntKind.wrap_i64]; omega
    have e2 : IntKind.i64.wrap (-2 * d - 1) = -2 * d - 1 := by rw [IntKind.wrap_i64]; omega
    have e3 : wrap64 (-2 * d) = -2 * d := by unfold wrap64; omega
    have e4 : wrap64 (-2 * d - 1) = -2 * d - 1 := by unfold wrap64; omega
    have HZ : Hid ((zig d : Int) = -2 * d - 1) := Lib.hid (by unfold zig; rw [if_pos h]; omega)
    go_enter Tryd.func153, Tryd.ntmps153
    go_wp2
    go_ret
    exact ⟨by rw [HZ.out]; rfl, rfl⟩
  · have hd : decide (d < 0) = false := decide_eq_false h
    have e1 : IntKind.i64.wrap (2 * d) = 2 * d := by rw [IntKind.wrap_i64]; omega
    have e3 : wrap64 (2 * d) = 2 * d := by unfold wrap64; omega
    have HZ : Hid ((zig d : Int) = 2 * d) := Lib.hid (by unfold zig; rw [if_neg h]; omega)
    go_enter Tryd.func153, Tryd.ntmps153
    go_wp2
    go_ret
    exact ⟨by rw [HZ.out]; rfl, rfl⟩
theorem headB_len {ls : List S112} {rows : List S71} (h : rightC ls rows = true) : 1 ≤ rows.length ∧ rows.length ≤ 1000 ∧ (text7 (strOfNums (bytesL ls))).length ≤ 3200 ∧ (num7 rows.length).length ≤ 6 := by
  have h1 := (bytesL_len (right_labs h)).1
  have h2 := text7_len (strOfNums (bytesL ls)) (by rw [strOfNums_size]; omega)
  rw [strOfNums_size] at h2
  have h3 : 1 ≤ rows.length ∧ rows.length ≤ 1000 := by
    unfold rightC at h
    simp only [Bool.and_eq_true, decide_eq_true_eq] at h
    exact h.2
  have h4 := num7_len rows.length 5 (by omega)
  omega
theorem pairs_step (rows : List S71) (k : Nat) (hk : k < rows.length) : pairsB true ((pairsL z71 rows).take (k + 1)) = pairsB true ((pairsL z71 rows).take k) ++ pairB (k == 0) (prevR z71 rows k) rows[k] := by
  rw [pairsL_take _ _ _ hk, pairsB_snoc]
  have : (true && ((pairsL z71 rows).take k).isEmpty) = (k == 0) := by
    cases k with
    | zero => rfl
    | succ k =>
      cases rows with
      | nil => simp at hk
      | cons x l => rfl
  rw [this]
theorem right_at {ls : List S112} {rows : List S71} (h : rightC ls rows = true) (k : Nat) (hk : k < rows.length) : PairOk ls (prevR z71 rows k) rows[k] :=
  right_pair h (pre := (pairsL z71 rows).take k) (y := (prevR z71 rows k, rows[k])) (by rw [← pairsL_take _ _ _ hk]; exact List.take_prefix _ _)
theorem right_sofar {ls : List S112} {rows : List S71} (h : rightC ls rows = true) (k : Nat) : (headB ls rows.length ++ pairsB true ((pairsL z71 rows).take k)).length ≤ 1200000 := by
  obtain ⟨h1, h2, h3, h4⟩ := headB_len h
  have h5 := pairsB_len ((pairsL z71 rows).take k) true (right_pairs h (List.take_prefix _ _))
  have h6 : ((pairsL z71 rows).take k).length ≤ rows.length := by rw [List.length_take, pairsL_len]; omega
  unfold headB
  rw [List.length_append, List.length_append]
  omega
end Go.Proofs.YtojocffjajcdmaaDoor.RF
/- The reference's Bytes of a chunk: walked. -/
namespace Go.Proofs.YtojocffjajcdmaaDoor.RF
open Go Go.RowKit Go.Shelf Go.Sort Go.Proofs.YtojocffjajcdmaaDoor Go.Proofs.YtojocffjajcdmaaDoorW.PrintWords Go.Proofs.YtojocffjajcdmaaDoorW.PrintLast Go.Proofs.YtojocffjajcdmaaDoorW.PrintMore PChunkAll
set_option linter.unusedVariables false
set_option linter.unusedSimpArgs false

def RBRel (ls : List S112) (rows : List S71) (B : Nat) (W : World) (v3 v4 : Value) (wr : World) : Prop :=
  ∃ k : Nat, OwnB wr B v3 (headB ls rows.length ++ pairsB true ((pairsL z71 rows).take k)) ∧ v4 = .int .i64 (k : Int) ∧ k ≤ rows.length ∧ Below W.heap.size W wr

set_option maxHeartbeats 8000000 in
set_option maxRecDepth 100000 in
theorem rbytesC_any (A1 : Option Addr) (c1 : Nat) (ls : List S112) (A2 : Option Addr) (c2 : Nat) (rows : List S71) (w : World) (hL : Kd.C k112 w A1 ls.length ls) (hR : RowC w A2 (rcells rows)) (hx : rightC ls rows = true) :
    Calls Tryd.prog 114 #[chV A1 ls.length c1 A2 rows.length c2] w (BytesBelow (bytesC ls rows) w) := by
  obtain ⟨r1, r2, r3, r4⟩ := headB_len hx
  obtain ⟨W, hW⟩ : ∃ W, W = w.alloc (.cells #[.slice A1 ls.length c1, .slice A2 rows.length c2] 50) := ⟨_, rfl⟩
  have HB0 : Hid (Below w.heap.size w W) := Lib.hid (by rw [hW]; exact (Below.refl _ _).alloc (Nat.le_refl _) _)
  have hbk : Blk W w.heap.size #[.slice A1 ls.length c1, .slice A2 rows.length c2] 50 := by rw [hW]; exact Blk.new _ _ _ _ rfl
  have k0 : W.cell? ⟨w.heap.size, 0, none⟩ = some (.slice A1 ls.length c1) := hbk.cell 0 _ rfl
  have k1 : W.cell? ⟨w.heap.size, 1, none⟩ = some (.slice A2 rows.length c2) := hbk.cell 1 _ rfl
  have HK0 := Lib.hid k0
  have HK1 := Lib.hid k1
  have HLL := Lib.hid (Kd.C_below hL HB0.out)
  have HRR := Lib.hid (hR.below HB0.out)
  have HLB : Hid (∀ W', Below W.heap.size W W' → Calls Tryd.prog 136 #[.slice A1 ls.length c1] W' (BytesBelow (bytesL ls) W')) := Lib.hid (fun W' hb => rbytesL_any A1 c1 ls W' (Kd.C_below HLL.out hb) (right_labs hx))
  have hbl := (bytesL_len (right_labs hx)).1
  have HT2 : Hid (∀ W', Calls Tryd.prog 108 #[.string (strOfNums (bytesL ls))] W' (BytesBelow (text7 (strOfNums (bytesL ls))) W')) := Lib.hid (fun W' => rtextb_any _ W' (by rw [strOfNums_size]; omega))
  have HN0 : Hid (∀ W', Calls Tryd.prog 107 #[.int .i64 (rows.length : Int)] W' (BytesBelow (num7 rows.length) W')) := Lib.hid (fun W' => rbytes_any rows.length W' (by omega))
  have HZ0 : Hid (headB ls rows.length = text7 (strOfNums (bytesL ls)) ++ num7 rows.length) := Lib.hid rfl
  have HSZ : Hid (w.heap.size ≤ W.heap.size) := Lib.hid HB0.out.size
  have HX := Lib.hid hx
  have HWE := Lib.hid hW
  have HL0 : Hid ((text7 (strOfNums (bytesL ls))).length + (num7 rows.length).length ≤ 100000) := Lib.hid (by omega)
  obtain ⟨bR, oR, hA2, hRC⟩ := HRR.out (by rw [rcells_len]; omega)
  subst hA2
  have HRC := Lib.hid hRC
  clear hL hR hx hbk hbl r3 r4 hW hRC HRR
  generalize hT2 : text7 (strOfNums (bytesL ls)) = T2 at *
  generalize hN0 : num7 rows.length = N0 at *
  clear hT2 hN0
  go_enter Tryd.func114, Tryd.ntmps114
  go_wp2_with fail
  rw [← HWE.out]
  go_region_held_law (fun w' => w'.cell? ⟨w.heap.size, 0, none⟩ = some (.slice A1 ls.length c1) ∧ w'.cell? ⟨w.heap.size, 1, none⟩ = some (.slice (some ⟨bR, oR, none⟩) rows.length c2))
    (first | go_keep | (exact ⟨pw_cell_below hk4 HK0.out, pw_cell_below hk4 HK1.out⟩) | (exact ⟨pw_cell_below hk5 HK0.out, pw_cell_below hk5 HK1.out⟩) | (exact ⟨pw_cell_below hk6 HK0.out, pw_cell_below hk6 HK1.out⟩) | (exact ⟨pw_cell_below hk7 HK0.out, pw_cell_below hk7 HK1.out⟩))
    (first | (go_at_call 136; (with_reducible refine (HLB.out _ (below_drew1 (Below.refl W.heap.size W))).mono ?_); rintro e w4 ⟨v4, rfl, ho4, hb4⟩; obtain ⟨A4, q4, h4⟩ := Kd.R_slice ho4; subst h4; have hk4 := below_step (below_drew1 (Below.refl W.heap.size W)) hb4; have hcv := Kd.C_string (P := Tryd.prog) (A := A4) (c := q4) Tryd.underlying23 Tryd.underlying5 Tryd.underlying9 (Kd.R_reads' ho4).2.2; clear ho4 hb4)
           | (go_at_call 108; (with_reducible refine (HT2.out _).mono ?_); rintro e w5 ⟨v5, rfl, ho5, hb5⟩; obtain ⟨A5, q5, h5⟩ := Kd.R_slice ho5; subst h5; have hk5 := below_step hk4 hb5; have HO5 := Lib.hid (Kd.R_lower ho5 hk4.size); clear ho5 hb5 hcv)
           | (go_at_call 107; (with_reducible refine (HN0.out _).mono ?_); rintro e w6 ⟨v6, rfl, ho6, hb6⟩; obtain ⟨A6, q6, h6⟩ := Kd.R_slice ho6; subst h6; have hk6 := below_step hk5 hb6; have HO6 := Lib.hid (Kd.R_below HO5.out hb6); have HC6 := Lib.hid (Kd.R_reads' ho6).2.2; clear ho6 hb6)
           | (refine Kd.R_append_rows_step KB (w0 := W) W.heap.size (by rfl) (.tmp 10) (.tmp 14) 23 5 (.int .u8 0) 1 rfl Tryd.underlying23 info5 rfl (by decide) (by omega) (.slice A5 T2.length q5) T2 N0 _ _ _ (fun _ => True) (fun _ => False) rfl rfl HO6.out HC6.out (fun _ _ h => h) (fun _ h => h.elim) (fun _ _ => trivial) hk6 hk6.size (by have := HL0.out; omega) ?_; intro v7 w7 ho7 hk7 hg7 hat7; rw [← HZ0.out] at ho7; have HO7 := Lib.hid ho7; clear ho7 hg7 hat7))
  have HB7 := Lib.hid hk7
  go_wp2
  go_loopw [3, 4] (fun v3 v4 wr => RBRel ls rows W.heap.size W v3 v4 wr) (fun _ v4 _ => rows.length - (intOf v4).toNat)
  case atStart => exact ⟨0, by have h := HO7.out; simpa [pairsB] using h, rfl, Nat.zero_le _, HB7.out⟩
  case round =>
    clear HO7 HB7 hk4 hk5 hk6 hk7 HO5 HO6 HC6 HLB HT2 HN0 HZ0 HL0 HLL k0
    obtain ⟨k, ho, rfl, hk, hb⟩ := hrel
    have kb1 := pw_cell_below hb k1
    have HOK := Lib.hid ho
    have HBK := Lib.hid hb
    by_cases hlt : k < rows.length
    · have hki : (k : Int) < (rows.length : Int) := by omega
      have hki0 : (0 : Int) ≤ (k : Int) := by omega
      obtain ⟨q0, q1, q2⟩ := rcells_at HRC.out k hlt
      have hx0 := pw_cell_below hb q0
      have hx1 := pw_cell_below hb q1
      have hx2 := pw_cell_below hb q2
      obtain ⟨A4, q4, h4⟩ := Kd.R_slice ho
      subst h4
      have HPO := Lib.hid (right_at HX.out k hlt)
      have HST := Lib.hid (pairs_step rows k hlt)
      have HSF := Lib.hid (right_sofar HX.out (k + 1))
      have HPV : Hid (∀ j, k = j + 1 → ∃ h : j < rows.length, prevR z71 rows k = rows[j]) := Lib.hid (fun j e => ⟨by omega, by unfold prevR; rw [if_neg (by omega), show k - 1 = j by omega, List.getD_eq_getElem?_getD, List.getElem?_eq_getElem (by omega)]; rfl⟩)
      clear ho hb q0 q1 q2
      generalize hxx : rows[k] = x at *
      clear hxx
      obtain ⟨Q, hQ⟩ : ∃ Q, Q = wr.heap.size := ⟨_, rfl⟩
      obtain ⟨W5, hW5⟩ : ∃ W5, W5 = wr.alloc (.cells #[.int .i64 x.f0, .int .i64 x.f1, .string x.f2] 93) := ⟨_, rfl⟩
      have hbx : Blk W5 Q #[.int .i64 x.f0, .int .i64 x.f1, .string x.f2] 93 := by rw [hW5]; exact Blk.new _ _ _ _ hQ
      have HB5 : Hid (Below W.heap.size W W5) := Lib.hid (by rw [hW5]; exact below_alloc HBK.out _)
      have HO5 : Hid (OwnB W5 W.heap.size (.slice A4 (headB ls rows.length ++ pairsB true ((pairsL z71 rows).take k)).length q4) (headB ls rows.length ++ pairsB true ((pairsL z71 rows).take k))) := Lib.hid (by rw [hW5]; exact Kd.R_below HOK.out ((Below.refl _ _).alloc (Nat.le_refl _) _))
      have m0 : W5.cell? ⟨Q, 0, none⟩ = some (.int .i64 x.f0) := hbx.cell 0 _ rfl
      have m1 : W5.cell? ⟨Q, 1, none⟩ = some (.int .i64 x.f1) := hbx.cell 1 _ rfl
      have m2 : W5.cell? ⟨Q, 2, none⟩ = some (.string x.f2) := hbx.cell 2 _ rfl
      have HM0 := Lib.hid m0
      have HM1 := Lib.hid m1
      have HM2 := Lib.hid m2
      have HQ := Lib.hid hQ
      have HWE5 := Lib.hid hW5
      have HTX : Hid (∀ W', Calls Tryd.prog 108 #[.string x.f2] W' (BytesBelow (text7 x.f2) W')) := Lib.hid (fun W' => rtextb_any _ W' (by have := HPO.out.seq; omega))
      obtain ⟨a1, a2, a3, a4, a5, a6, a7⟩ := HPO.out.seq
      have HSQ := Lib.hid HPO.out.seq
      have HAS : Hid (headB ls rows.length ++ pairsB true ((pairsL z71 rows).take (k + 1)) = (((headB ls rows.length ++ pairsB true ((pairsL z71 rows).take k)) ++ num7 (x.f1 - (prevR z71 rows k).f1).toNat) ++ seqB (k == 0) (prevR z71 rows k) x) ++ text7 x.f2) := Lib.hid (by rw [HST.out]; unfold pairB; simp only [List.append_assoc])
      have HBX := Lib.hid hbx
      have HNE : Hid ((Value.slice A4 (headB ls rows.length ++ pairsB true ((pairsL z71 rows).take k)).length q4).ownBlock ≠ some Q) := Lib.hid (fun e => by have := ((OwnB.row HOK.out).lt _ e).2; rw [hQ] at this; omega)
      clear HOK hbx hQ hW5 HST
      have hlen := HSF.out
      rw [HAS.out] at hlen
      generalize headB ls rows.length ++ pairsB true ((pairsL z71 rows).take k) = Y at *
      generalize text7 x.f2 = T at *
      rcases Nat.eq_zero_or_pos k with hk0 | hk0
      · subst hk0
        have hp : prevR z71 rows 0 = z71 := rfl
        simp only [Nat.zero_mul, Nat.add_zero] at hx0 hx1 hx2
        rw [hp] at HAS HSQ hlen a1 a2 a5 a6
        have HN1 : Hid (∀ W', Calls Tryd.prog 107 #[.int .i64 x.f1] W' (BytesBelow (num7 (x.f1 - z71.f1).toNat) W')) := Lib.hid (fun W' => by have e : x.f1 - z71.f1 = x.f1 := Int.sub_zero _; rw [e] at a5 a6 ⊢; have := rbytes_any x.f1.toNat W' (by omega); rwa [Int.toNat_of_nonneg a5] at this)
        have HN2 : Hid (∀ W', Calls Tryd.prog 107 #[.int .i64 x.f0] W' (BytesBelow (seqB (0 == 0) z71 x) W')) := Lib.hid (fun W' => by show Calls _ _ _ _ (BytesBelow (num7 x.f0.toNat) W'); have := rbytes_any x.f0.toNat W' (by omega); rwa [Int.toNat_of_nonneg (by omega)] at this)
        generalize num7 (x.f1 - z71.f1).toNat = N1 at *
        generalize seqB (0 == 0) z71 x = N2 at *
        obtain ⟨Z1, hZ1⟩ : ∃ Z, Z = Y ++ N1 := ⟨_, rfl⟩
        obtain ⟨Z2, hZ2⟩ : ∃ Z, Z = Z1 ++ N2 := ⟨_, rfl⟩
        obtain ⟨Z3, hZ3⟩ : ∃ Z, Z = Z2 ++ T := ⟨_, rfl⟩
        have HS : Hid (headB ls rows.length ++ pairsB true ((pairsL z71 rows).take (0 + 1)) = Z2 ++ T) := Lib.hid (by rw [HAS.out, hZ2, hZ1])
        have HL1 : Hid (Y.length + N1.length ≤ 1300000) := Lib.hid (by simp only [List.length_append] at hlen; omega)
        have HL2 : Hid (Z1.length + N2.length ≤ 1300000) := Lib.hid (by rw [hZ1]; simp only [List.length_append] at hlen ⊢; omega)
        have HL3 : Hid (Z2.length + T.length ≤ 1300000) := Lib.hid (by rw [hZ2, hZ1]; simp only [List.length_append] at hlen ⊢; omega)
        have HZ1 := Lib.hid hZ1
        have HZ2 := Lib.hid hZ2
        clear hZ1 hZ2 hZ3 HAS
        clear a1 a2 a3 a4 a5 a6 a7 hlen HPV HSQ HPO HSF
        go_wp2_with fail
        rw [← HWE5.out, ← HQ.out]
        go_region_held3 (fun w' => w'.cell? ⟨Q, 0, none⟩ = some (.int .i64 x.f0) ∧ w'.cell? ⟨Q, 1, none⟩ = some (.int .i64 x.f1))
          (first | go_keep | (exact ⟨HK4.out.cell 0 _ rfl, HK4.out.cell 1 _ rfl⟩) | (exact ⟨HK5.out.cell 0 _ rfl, HK5.out.cell 1 _ rfl⟩) | (exact ⟨HK6.out.cell 0 _ rfl, HK6.out.cell 1 _ rfl⟩) | (exact ⟨HKZ.out.cell 0 _ rfl, HKZ.out.cell 1 _ rfl⟩))
          (first | (go_at_call 107; (with_reducible refine (HN1.out _).mono ?_); rintro e w4 ⟨v4, rfl, ho4, hb4⟩; obtain ⟨Aa, qa, h4⟩ := Kd.R_slice ho4; subst h4; have HO4 := Lib.hid (Kd.R_below (Kd.R_drew HO5.out) hb4); have HC4 := Lib.hid (Kd.R_reads' ho4).2.2; have HBA := Lib.hid (below_step (below_drew1 HB5.out) hb4); have HK4 := Lib.hid (Blk.below HBX.out (below_step (below_drew1 (Below.refl W5.heap.size W5)) hb4) HBX.out.lt); clear ho4 hb4)
                 | (refine Kd.R_append_rows_step KB (w0 := W) W.heap.size (by rfl) (.tmp 30) (.tmp 33) 23 5 (.int .u8 0) 1 rfl Tryd.underlying23 info5 rfl (by decide) (by omega) (.slice A4 Y.length q4) Y N1 _ _ _ (fun _ => True) (fun _ => False) rfl rfl HO4.out HC4.out (fun _ _ h => h) (fun _ h => h.elim) (fun _ _ => trivial) HBA.out HBA.out.size (by have := HL1.out; omega) ?_; intro v5 w5 ho5 hk5 hg5 hat5; rw [← HZ1.out] at ho5; obtain ⟨A5, q5, h5⟩ := Kd.R_slice ho5; subst h5; have HO5' := Lib.hid ho5; have HBB := Lib.hid hk5; have HK5 := Lib.hid (Blk.grown HK4.out hg5 HNE.out); have HN5 : Hid ((Value.slice A5 Z1.length q5).ownBlock ≠ some Q) := Lib.hid (by intro e; rcases hat5 with h | ⟨b, h, hb⟩; exact HNE.out (by rw [← h]; exact e); rw [h] at e; injection e with e; have := HK4.out.lt; omega); clear ho5 hk5 hg5 hat5)
                 | (go_at_call 107; (with_reducible refine (HN2.out _).mono ?_); rintro e w6 ⟨v6, rfl, ho6, hb6⟩; obtain ⟨A9, q9, h9⟩ := Kd.R_slice ho6; subst h9; have HO6 := Lib.hid (Kd.R_below HO5'.out hb6); have HC6 := Lib.hid (Kd.R_reads' ho6).2.2; have HBC := Lib.hid (below_step HBB.out hb6); have HK6 := Lib.hid (Blk.below HK5.out hb6 HK5.out.lt); clear ho6 hb6)
                 | (refine Kd.R_append_rows_step KB (w0 := W) W.heap.size (by rfl) (.tmp 34) (.tmp 37) 23 5 (.int .u8 0) 1 rfl Tryd.underlying23 info5 rfl (by decide) (by omega) (.slice A5 Z1.length q5) Z1 N2 _ _ _ (fun _ => True) (fun _ => False) rfl rfl HO6.out HC6.out (fun _ _ h => h) (fun _ h => h.elim) (fun _ _ => trivial) HBC.out HBC.out.size (by have := HL2.out; omega) ?_; intro v7 w7 ho7 hk7 hg7 hat7; rw [← HZ2.out] at ho7; obtain ⟨A7, q7, h7⟩ := Kd.R_slice ho7; subst h7; have HOZ := Lib.hid ho7; have HBZ := Lib.hid hk7; have HKZ := Lib.hid (Blk.grown HK6.out hg7 HN5.out); have HNZ : Hid ((Value.slice A7 Z2.length q7).ownBlock ≠ some Q) := Lib.hid (by intro e; rcases hat7 with h | ⟨b, h, hb⟩; exact HN5.out (by rw [← h]; exact e); rw [h] at e; injection e with e; have := HK6.out.lt; omega); clear ho7 hk7 hg7 hat7))
        have z2 := HKZ.out.cell 2 _ rfl
        go_wp2_with (first
          | (go_at_call 108; (with_reducible refine (HTX.out _).mono ?_); rintro e w8 ⟨v8, rfl, ho8, hb8⟩; obtain ⟨A8, q8, h8⟩ := Kd.R_slice ho8; subst h8; have HO8 := Lib.hid (Kd.R_below HOZ.out hb8); have HC8 := Lib.hid (Kd.R_reads' ho8).2.2; have HB8 := Lib.hid (below_step HBZ.out hb8); clear ho8 hb8)
          | ((with_reducible refine gate_builtin (b := .append) (xs := #[.tmp 65, .tmp 68]) rfl ?_); at_builtin; refine Kd.R_append_row (Value.int .u8) 0 (w0 := W) W.heap.size rfl (.tmp 65) (.tmp 68) 23 5 (.int .u8 0) 1 rfl Tryd.underlying23 info5 rfl (by omega) _ Z2 T A8 T.length q8 (fun _ => True) rfl rfl (fun _ _ => trivial) HO8.out HC8.out HB8.out (below_size HB8.out) (by have := HL3.out; omega) ?_; intro v9 w9 ho9 hb9 hg9 hat9; rw [← HS.out] at ho9; have HO9 := Lib.hid ho9; have HB9 := Lib.hid hb9; clear ho9 hb9 hg9 hat9))
        go_roundw
        case rel => exact ⟨0 + 1, HO9.out, by go_num, by omega, HB9.out⟩
        case measure => simp [intOf]; omega
      · obtain ⟨j, hj⟩ : ∃ j, k = j + 1 := ⟨k - 1, by omega⟩
        obtain ⟨hjl, hpv⟩ := HPV.out j hj
        obtain ⟨p0, p1, p2⟩ := rcells_at HRC.out j hjl
        rw [hpv] at HAS HSQ hlen a1 a2 a5 a6
        generalize rows[j] = y at *
        have HP0 := Lib.hid p0
        have HP1 := Lib.hid p1
        have pb0 := pw_cell_below HB5.out p0
        have pb1 := pw_cell_below HB5.out p1
        have kb5 := pw_cell_below HB5.out HK1.out
        have dk1 : decide ((k : Int) = 0) = false := decide_eq_false (by omega)
        have dk2 : ((k : Int) == 0) = false := by simp; omega
        have hw1 : IntKind.i64.wrap ((k : Int) - 1) = (j : Int) := by rw [IntKind.wrap_i64]; omega
        have hw2 : wrap64 ((k : Int) - 1) = (j : Int) := by unfold wrap64; omega
        have hjz : (j : Int) < (rows.length : Int) := by omega
        have hjz0 : (0 : Int) ≤ (j : Int) := by omega
        have hw3 : IntKind.i64.wrap (x.f1 - y.f1) = x.f1 - y.f1 := by rw [IntKind.wrap_i64]; omega
        have hw4 : IntKind.i64.wrap (x.f0 - y.f0) = x.f0 - y.f0 := by rw [IntKind.wrap_i64]; omega
        have hw5 : wrap64 (x.f1 - y.f1) = x.f1 - y.f1 := by unfold wrap64; omega
        have hw6 : wrap64 (x.f0 - y.f0) = x.f0 - y.f0 := by unfold wrap64; omega
        have hkb : (k == 0) = false := by simp; omega
        rw [hkb] at HAS hlen
        have HN1 : Hid (∀ W', Calls Tryd.prog 107 #[.int .i64 (x.f1 - y.f1)] W' (BytesBelow (num7 (x.f1 - y.f1).toNat) W')) := Lib.hid (fun W' => by have := rbytes_any (x.f1 - y.f1).toNat W' (by omega); rwa [Int.toNat_of_nonneg a5] at this)
        have HN2 : Hid (∀ W', Calls Tryd.prog 107 #[.int .i64 ((zig (x.f0 - y.f0) : Nat) : Int)] W' (BytesBelow (seqB false y x) W')) := Lib.hid (fun W' => rbytes_any (zig (x.f0 - y.f0)) W' (zig_lt _ (by omega) (by omega)))
        have HZG : Hid (∀ W', Calls Tryd.prog 153 #[.int .i64 (x.f0 - y.f0)] W' fun e w' => e = .returned (.int .i64 (zig (x.f0 - y.f0) : Nat)) ∧ w' = W') := Lib.hid (fun W' => rzig_any _ W' (by omega) (by omega))
        generalize num7 (x.f1 - y.f1).toNat = N1 at *
        generalize seqB false y x = N2 at *
        obtain ⟨Z1, hZ1⟩ : ∃ Z, Z = Y ++ N1 := ⟨_, rfl⟩
        obtain ⟨Z2, hZ2⟩ : ∃ Z, Z = Z1 ++ N2 := ⟨_, rfl⟩
        obtain ⟨Z3, hZ3⟩ : ∃ Z, Z = Z2 ++ T := ⟨_, rfl⟩
        have HS : Hid (headB ls rows.length ++ pairsB true ((pairsL z71 rows).take (k + 1)) = Z2 ++ T) := Lib.hid (by rw [HAS.out, hZ2, hZ1])
        have HL1 : Hid (Y.length + N1.length ≤ 1300000) := Lib.hid (by simp only [List.length_append] at hlen; omega)
        have HL2 : Hid (Z1.length + N2.length ≤ 1300000) := Lib.hid (by rw [hZ1]; simp only [List.length_append] at hlen ⊢; omega)
        have HL3 : Hid (Z2.length + T.length ≤ 1300000) := Lib.hid (by rw [hZ2, hZ1]; simp only [List.length_append] at hlen ⊢; omega)
        have HZ1 := Lib.hid hZ1
        have HZ2 := Lib.hid hZ2
        clear hZ1 hZ2 hZ3 HAS
        have HK0' := Lib.hid hk0
        have HJ := Lib.hid hj
        clear a1 a2 a3 a4 a5 a6 a7 hlen HPV HSQ HPO HSF hk0 hj hpv p0 p1 p2 hkb
        go_wp2_with fail
        rw [← HWE5.out, ← HQ.out]
        go_region_held3 (fun w' => w'.cell? ⟨Q, 0, none⟩ = some (.int .i64 x.f0) ∧ w'.cell? ⟨Q, 1, none⟩ = some (.int .i64 x.f1) ∧ w'.cell? ⟨w.heap.size, 1, none⟩ = some (.slice (some ⟨bR, oR, none⟩) rows.length c2) ∧ w'.cell? ⟨bR, oR + j * 3, none⟩ = some (.int .i64 y.f0) ∧ w'.cell? ⟨bR, oR + j * 3 + 1, none⟩ = some (.int .i64 y.f1))
          (first | go_keep | (exact ⟨HK4.out.cell 0 _ rfl, HK4.out.cell 1 _ rfl, pw_cell_below HBA.out HK1.out, pw_cell_below HBA.out HP0.out, pw_cell_below HBA.out HP1.out⟩) | (exact ⟨HK5.out.cell 0 _ rfl, HK5.out.cell 1 _ rfl, pw_cell_below HBB.out HK1.out, pw_cell_below HBB.out HP0.out, pw_cell_below HBB.out HP1.out⟩) | (exact ⟨HK6.out.cell 0 _ rfl, HK6.out.cell 1 _ rfl, pw_cell_below HBC.out HK1.out, pw_cell_below HBC.out HP0.out, pw_cell_below HBC.out HP1.out⟩) | (exact ⟨HKZ.out.cell 0 _ rfl, HKZ.out.cell 1 _ rfl, pw_cell_below HBZ.out HK1.out, pw_cell_below HBZ.out HP0.out, pw_cell_below HBZ.out HP1.out⟩))
          (first | (go_at_call 107; (with_reducible refine (HN1.out _).mono ?_); rintro e w4 ⟨v4, rfl, ho4, hb4⟩; obtain ⟨Aa, qa, h4⟩ := Kd.R_slice ho4; subst h4; have HO4 := Lib.hid (Kd.R_below (Kd.R_drew HO5.out) hb4); have HC4 := Lib.hid (Kd.R_reads' ho4).2.2; have HBA := Lib.hid (below_step (below_drew1 HB5.out) hb4); have HK4 := Lib.hid (Blk.below HBX.out (below_step (below_drew1 (Below.refl W5.heap.size W5)) hb4) HBX.out.lt); clear ho4 hb4)
                 | (refine Kd.R_append_rows_step KB (w0 := W) W.heap.size (by rfl) (.tmp 39) (.tmp 50) 23 5 (.int .u8 0) 1 rfl Tryd.underlying23 info5 rfl (by decide) (by omega) (.slice A4 Y.length q4) Y N1 _ _ _ (fun _ => True) (fun _ => False) rfl rfl HO4.out HC4.out (fun _ _ h => h) (fun _ h => h.elim) (fun _ _ => trivial) HBA.out HBA.out.size (by have := HL1.out; omega) ?_; intro v5 w5 ho5 hk5 hg5 hat5; rw [← HZ1.out] at ho5; obtain ⟨A5, q5, h5⟩ := Kd.R_slice ho5; subst h5; have HO5' := Lib.hid ho5; have HBB := Lib.hid hk5; have HK5 := Lib.hid (Blk.grown HK4.out hg5 HNE.out); have HN5 : Hid ((Value.slice A5 Z1.length q5).ownBlock ≠ some Q) := Lib.hid (by intro e; rcases hat5 with h | ⟨b, h, hb⟩; exact HNE.out (by rw [← h]; exact e); rw [h] at e; injection e with e; have := HK4.out.lt; omega); clear ho5 hk5 hg5 hat5)
                 | (go_at_call 153; (with_reducible refine (HZG.out _).mono ?_); rintro e w6 ⟨rfl, rfl⟩)
                 | (go_at_call 107; (with_reducible refine (HN2.out _).mono ?_); rintro e w6 ⟨v6, rfl, ho6, hb6⟩; obtain ⟨A9, q9, h9⟩ := Kd.R_slice ho6; subst h9; have HO6 := Lib.hid (Kd.R_below HO5'.out hb6); have HC6 := Lib.hid (Kd.R_reads' ho6).2.2; have HBC := Lib.hid (below_step HBB.out hb6); have HK6 := Lib.hid (Blk.below HK5.out hb6 HK5.out.lt); clear ho6 hb6)
                 | (refine Kd.R_append_rows_step KB (w0 := W) W.heap.size (by rfl) (.tmp 51) (.tmp 63) 23 5 (.int .u8 0) 1 rfl Tryd.underlying23 info5 rfl (by decide) (by omega) (.slice A5 Z1.length q5) Z1 N2 _ _ _ (fun _ => True) (fun _ => False) rfl rfl HO6.out HC6.out (fun _ _ h => h) (fun _ h => h.elim) (fun _ _ => trivial) HBC.out HBC.out.size (by have := HL2.out; omega) ?_; intro v7 w7 ho7 hk7 hg7 hat7; rw [← HZ2.out] at ho7; obtain ⟨A7, q7, h7⟩ := Kd.R_slice ho7; subst h7; have HOZ := Lib.hid ho7; have HBZ := Lib.hid hk7; have HKZ := Lib.hid (Blk.grown HK6.out hg7 HN5.out); have HNZ : Hid ((Value.slice A7 Z2.length q7).ownBlock ≠ some Q) := Lib.hid (by intro e; rcases hat7 with h | ⟨b, h, hb⟩; exact HN5.out (by rw [← h]; exact e); rw [h] at e; injection e with e; have := HK6.out.lt; omega); clear ho7 hk7 hg7 hat7))
        have z2 := HKZ.out.cell 2 _ rfl
        go_wp2_with (first
          | (go_at_call 108; (with_reducible refine (HTX.out _).mono ?_); rintro e w8 ⟨v8, rfl, ho8, hb8⟩; obtain ⟨A8, q8, h8⟩ := Kd.R_slice ho8; subst h8; have HO8 := Lib.hid (Kd.R_below HOZ.out hb8); have HC8 := Lib.hid (Kd.R_reads' ho8).2.2; have HB8 := Lib.hid (below_step HBZ.out hb8); clear ho8 hb8)
          | ((with_reducible refine gate_builtin (b := .append) (xs := #[.tmp 65, .tmp 68]) rfl ?_); at_builtin; refine Kd.R_append_row (Value.int .u8) 0 (w0 := W) W.heap.size rfl (.tmp 65) (.tmp 68) 23 5 (.int .u8 0) 1 rfl Tryd.underlying23 info5 rfl (by omega) _ Z2 T A8 T.length q8 (fun _ => True) rfl rfl (fun _ _ => trivial) HO8.out HC8.out HB8.out (below_size HB8.out) (by have := HL3.out; omega) ?_; intro v9 w9 ho9 hb9 hg9 hat9; rw [← HS.out] at ho9; have HO9 := Lib.hid ho9; have HB9 := Lib.hid hb9; clear ho9 hb9 hg9 hat9))
        go_roundw
        case rel => exact ⟨k + 1, HO9.out, by go_num, by omega, HB9.out⟩
        case measure => simp [intOf]; omega
    · have HE : Hid (bytesC ls rows = headB ls rows.length ++ pairsB true ((pairsL z71 rows).take k)) := Lib.hid (by unfold bytesC; rw [List.take_of_length_le (by rw [pairsL_len]; omega)])
      have hki : ¬ (k : Int) < (rows.length : Int) := by omega
      clear ho hb
      go_wp2
      go_ret
      refine ⟨_, rfl, ?_, below_then HB0.out HSZ.out HBK.out⟩
      rw [HE.out]
      exact Kd.R_lower HOK.out HSZ.out
end Go.Proofs.YtojocffjajcdmaaDoor.RF
/- The reference's Put of a chunk. -/
namespace Go.Proofs.YtojocffjajcdmaaDoor.RF
open Go Go.RowKit Go.Shelf Go.Sort Go.Proofs.YtojocffjajcdmaaDoor Go.Proofs.YtojocffjajcdmaaDoorW.PrintWords Go.Proofs.YtojocffjajcdmaaDoorW.PrintLast Go.Proofs.YtojocffjajcdmaaDoorW.PrintMore PChunkAll
set_option linter.unusedVariables false
set_option linter.unusedSimpArgs false

set_option maxHeartbeats 4000000 in
set_option maxRecDepth 100000 in
theorem rputC_any (A1 : Option Addr) (c1 : Nat) (ls : List S112) (A2 : Option Addr) (c2 : Nat) (rows : List S71) (w : World) (hsz : SzOk ls) (hm : rows.length < 4398046511104)
    (hL : Kd.C k112 w A1 ls.length ls) (hR : RowC w A2 (rcells rows)) (hwf : ∀ x ∈ rows, (Lit.int .i64 x.f0).wf = true) :
    Calls Tryd.prog 54 #[chV A1 ls.length c1 A2 rows.length c2] w (PutRes (putC ls rows) w) := by
  have hb0 : Below w.heap.size w (w.alloc (.cells #[.slice A1 ls.length c1, .slice A2 rows.length c2] 50)) := (Below.refl _ _).alloc (Nat.le_refl _) _
  have HB0 := Lib.hid hb0
  have k0 : Blk (w.alloc (.cells #[.slice A1 ls.length c1, .slice A2 rows.length c2] 50)) w.heap.size #[.slice A1 ls.length c1, .slice A2 rows.length c2] 50 := Blk.new _ _ _ _ rfl
  have HK0 := Lib.hid k0
  have c00 := k0.cell 0 _ rfl
  have c01 := k0.cell 1 _ rfl
  have HRR := Lib.hid (rright58_any A1 c1 ls A2 c2 rows _ hsz (by omega) (Kd.C_below hL hb0) (hR.below hb0) hwf)
  have HLR := Lib.hid (And.intro (Kd.C_below hL hb0) (hR.below hb0))
  have HPE : Hid (putC ls rows = if rightC ls rows = true then (bytesC ls rows, 0) else ([], 1)) := Lib.hid rfl
  clear hsz hL hR hwf hb0 k0
  cases hx : rightC ls rows with
  | true =>
    rw [hx] at HRR
    have HPR : Hid (putC ls rows = (bytesC ls rows, 0)) := Lib.hid (by rw [HPE.out, hx]; rfl)
    have HBY := Lib.hid (fun W' (hb : Below (w.alloc (.cells #[.slice A1 ls.length c1, .slice A2 rows.length c2] 50)).heap.size (w.alloc (.cells #[.slice A1 ls.length c1, .slice A2 rows.length c2] 50)) W') => rbytesC_any A1 c1 ls A2 c2 rows W' (Kd.C_below HLR.out.1 hb) (HLR.out.2.below hb) hx)
    rw [HPR.out]
    generalize bytesC ls rows = BX at *
    clear hx HPE
    go_enter Tryd.func54, Tryd.ntmps54
    go_wp2_with (first | (go_at_call 58; (with_reducible refine (HRR.out).mono ?_); rintro e w2 ⟨rfl, hb⟩; have HB2 := Lib.hid hb; have d0 := pw_cell_below hb c00; have d1 := pw_cell_below hb c01; clear hb c00 c01) | (go_at_call 114; (with_reducible refine (HBY.out _ HB2.out).mono ?_); rintro e w3 ⟨v, rfl, ho, hb⟩; obtain ⟨Ac, qc, h3⟩ := Kd.R_slice ho; subst h3; have HO3 := Lib.hid ho; have HB3 := Lib.hid (below_step HB2.out hb); have HS3 := Lib.hid (Nat.le_trans HB0.out.size HB2.out.size); clear ho hb))
    go_ret2
    exact ⟨_, rfl, Kd.R_lower HO3.out HS3.out, below_then HB0.out HB0.out.size HB3.out⟩
  | false =>
    rw [hx] at HRR
    have HPR : Hid (putC ls rows = ([], 1)) := Lib.hid (by rw [HPE.out, hx]; rfl)
    rw [HPR.out]
    clear hx HPE
    go_enter Tryd.func54, Tryd.ntmps54
    go_wp2_with (go_at_call 58; (with_reducible refine (HRR.out).mono ?_); rintro e w2 ⟨rfl, hb⟩; have HB2 := Lib.hid hb; clear hb)
    go_ret2
    exact ⟨_, rfl, Kd.R_nil _ _ _ _ _, below_then HB0.out HB0.out.size HB2.out⟩
end Go.Proofs.YtojocffjajcdmaaDoor.RF
/- law04.Same of equal chunks; a law's two chunks in their boxes. -/
namespace Go.Proofs.YtojocffjajcdmaaDoor.RF
open Go Go.RowKit Go.Shelf Go.Sort Go.Proofs.YtojocffjajcdmaaDoor Go.Proofs.YtojocffjajcdmaaDoorW.PrintWords Go.Proofs.YtojocffjajcdmaaDoorW.PrintLast Go.Proofs.YtojocffjajcdmaaDoorW.PrintMore PChunkAll
set_option linter.unusedVariables false
set_option linter.unusedSimpArgs false

theorem same02_big (l : List S112) (hl : l.length < 4398046511104) (d : Nat) (n i : Nat) (h : i + n = l.length) : icehouselaw02_Same.l0 (n + d + 1) l l (i : Int) = some true := by
  induction n generalizing i with
  | zero => rw [icehouselaw02_Same.l0, if_neg (by omega)]
  | succ n ih =>
    have hw : wrap64 ((i : Int) + 1) = ((i + 1 : Nat) : Int) := by unfold wrap64; omega
    rw [show n + 1 + d + 1 = (n + d + 1) + 1 by omega, icehouselaw02_Same.l0, if_pos (by omega), if_pos (by omega), if_pos (by omega), if_pos rfl, if_pos rfl, hw]
    exact ih (i + 1) (by omega)
theorem same04_l0 (ls : List S112) (rows : List S71) (hm : rows.length < 4398046511104) (d : Nat) (n k : Nat) (hk : k + n = rows.length) : icehouselaw04_Same.l0 (n + d + 1) (k : Int) ls rows ls (rows.map t93) = some true := by
  induction n generalizing k with
  | zero => rw [icehouselaw04_Same.l0, if_neg (by omega)]
  | succ n ih =>
    have hkl : k < rows.length := by omega
    have hw : wrap64 ((k : Int) + 1) = ((k + 1 : Nat) : Int) := by unfold wrap64; omega
    have e : rd_T93 (rows.map t93) (k : Int) = t93 rows[k] := by unfold rd_T93; rw [Int.toNat_natCast]; simp [hkl]
    have e2 : rd_T71 rows (k : Int) = rows[k] := by unfold rd_T71; rw [Int.toNat_natCast]; simp [hkl]
    rw [show n + 1 + d + 1 = (n + d + 1) + 1 by omega, icehouselaw04_Same.l0, if_pos (by omega), if_pos (by omega), if_pos (by simp; omega), e, e2, if_pos (show rows[k].f0 = (t93 rows[k]).f0 from rfl), if_pos (show rows[k].f1 = (t93 rows[k]).f1 from rfl), if_pos (show rows[k].f2.toList = (t93 rows[k]).f2.toList from rfl), hw]
    exact ih (k + 1) (by omega)
theorem same04_f (ls : List S112) (rows : List S71) (hl : ls.length < 4398046511104) (hm : rows.length < 4398046511104) : icehouselaw04_Same.f (ls.length + rows.length + 2) ls rows ls (rows.map t93) = some true := by
  unfold icehouselaw04_Same.f
  have h1 : icehouselaw02_Same.f (ls.length + rows.length + 2) ls ls = some true := by
    unfold icehouselaw02_Same.f
    rw [if_pos rfl]
    exact same02_big ls hl (rows.length + 1) ls.length 0 (by omega)
  rw [h1]
  have h2 : ((rows.length : Int) != ((rows.map t93).length : Int)) = false := by simp
  rw [h2]
  show icehouselaw04_Same.j0 (ls.length + rows.length + 1 + 1) false ls rows ls (rows.map t93) = _
  rw [icehouselaw04_Same.j0, if_neg (by decide)]
  have := same04_l0 ls rows hm ls.length rows.length 0 (by omega)
  rwa [Nat.add_comm rows.length] at this
theorem same41_any (A1 : Option Addr) (c1 : Nat) (A2 : Option Addr) (c2 : Nat) (A3 : Option Addr) (c3 : Nat) (A4 : Option Addr) (c4 : Nat) (ls : List S112) (rows : List S71) (w : World) (hls : ls.length < 4398046511104) (hm : rows.length < 4398046511104)
    (hL1 : Kd.C k112 w A1 ls.length ls) (h1 : ls.length ≤ c1) (hR2 : RowC w A2 (rcells rows)) (h2 : rows.length ≤ c2) (hL3 : Kd.C k112 w A3 ls.length ls) (h3 : ls.length ≤ c3) (hR4 : RowC w A4 (rcells rows)) (h4 : rows.length ≤ c4) :
    Calls Tryd.prog 41 #[chV A1 ls.length c1 A2 rows.length c2, chV A3 ls.length c3 A4 rows.length c4] w fun e w' => e = .returned (.bool true) ∧ Below w.heap.size w w' := by
  have hc := C93 (by omega) hR4
  have hc2 : Kd.C k93 w A4 (rows.map t93).length (rows.map t93) := by simpa using hc
  have := icehouselaw04_Same.calls (ls.length + rows.length + 2) A1 c1 ls A2 c2 rows A3 c3 ls A4 c4 (rows.map t93) true w hL1 h1 (C71 (by omega) hR2) h2 hL3 h3 hc2 (by simpa using h4) (same04_f ls rows hls hm)
  simpa using this
/-- A law's two chunks, the argument and one's own, in their boxes. -/
structure LK (w : World) (B1 : Nat) (A1 : Option Addr) (c1 : Nat) (ls : List S112) (A2 : Option Addr) (c2 : Nat) (rows : List S71) (A3 : Option Addr) (c3 : Nat) (A4 : Option Addr) (c4 : Nat) (W : World) : Prop where
  k0 : Blk W w.heap.size #[.slice A1 ls.length c1, .slice A2 rows.length c2] 50
  k1 : Blk W B1 #[.slice A3 ls.length c3, .slice A4 rows.length c4] 53
  L3 : Kd.C k112 W A3 ls.length ls
  R4 : RowC W A4 (rcells rows)
  below : Below w.heap.size w W
section
variable {w : World} {B1 : Nat} {A1 : Option Addr} {c1 : Nat} {ls : List S112} {A2 : Option Addr} {c2 : Nat} {rows : List S71} {A3 : Option Addr} {c3 : Nat} {A4 : Option Addr} {c4 : Nat} {W W' : World}
theorem LK.step (h : LK w B1 A1 c1 ls A2 c2 rows A3 c3 A4 c4 W) (hb : Below W.heap.size W W') : LK w B1 A1 c1 ls A2 c2 rows A3 c3 A4 c4 W' :=
  ⟨Blk.below h.k0 hb h.k0.lt, Blk.below h.k1 hb h.k1.lt, Kd.C_below h.L3 hb, h.R4.below hb, below_step h.below hb⟩
end

end Go.Proofs.YtojocffjajcdmaaDoor.RF
